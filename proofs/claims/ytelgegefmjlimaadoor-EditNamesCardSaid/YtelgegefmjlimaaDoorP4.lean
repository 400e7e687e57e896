/-
  Parts of a walk, joined: EngS EngW EngX EngT EngQ ET1 ET2 ET3 ET4 ET5 ET6 E1 E4 ET7 E6 E8 E2 E9a ET8 E10 ET9 ET10 ET11 ET12 ET13 ET14 ET19 E14 E27a EL R1 RT2 RT3. No condition.
-/
import Derived.Test.YtelgegefmjlimaaDoorP2
import Derived.Test.YtelgegefmjlimaaDoorP3
import Derived.ChangeMaps5
import Derived.ReadAgain
import Derived.ChangeBook
import Derived.Deep.Slices
import Derived.WalkKit
import Derived.ProofKit
import Derived.OpenShut
import Derived.JoinedCond
import Derived.Test.YtelgegefmjlimaaDoorP1
import Derived.Test.YtelgegefmjlimaaDoorProg
set_option linter.all false
/-
  A walk's engine, eighteenth part: a region that draws its order, where some operations change the heap: what is calm is done first, what acts is done in every order that there is. No condition.
-/
set_option linter.all false
namespace Go.Eng
open Go Go.RowKit
/-- what an operation owes that may change the heap -/
def QE (w0 : World) (d : Nat) (ds : List Nat) (S : SHeap) (m : Mem) (K : Value → Mem → SHeap → SHeap → Prop) : Exit → Act → World → Prop
  | .normal, a, w => ∃ v m' B U, a.tmps[d]? = some v ∧ a.defers = marks ds ∧ m.le m' ∧ Sat w0 m' (S ++ B ++ U) w ∧ K v m' (S ++ B) U
  | _, _, _ => False
/-- the same of an operation without an answer: a store -/
def QN (w0 : World) (ds : List Nat) (S : SHeap) (m : Mem) (K : Mem → SHeap → SHeap → Prop) : Exit → Act → World → Prop
  | .normal, a, w => ∃ m' B U, a.defers = marks ds ∧ m.le m' ∧ Sat w0 m' (S ++ B ++ U) w ∧ K m' (S ++ B) U
  | _, _, _ => False
def readyV (V : Nat) (o : Oper) : Prop := ∀ e ∈ o.after, bind1 e = true → V.testBit e.on = true
section
variable {P : Program} {ro : Option Nat} {n : Nat} {w0 : World} {Q : Exit → Act → World → Prop} {r : Env} {ds : List Nat} {m : Mem} {H : SHeap}
theorem WQ.acted {d : Nat} {S B U : SHeap} {m0 : Mem} {K : Value → Mem → SHeap → SHeap → Prop} {v : Value} (hv : r.get d = some v) (hm : m0.le m) (hh : ∀ w, Sat w0 m H w → Sat w0 m (S ++ B ++ U) w) (hK : K v m (S ++ B) U) :
    WQ n w0 (QE w0 d ds S m0 K) .normal r ds m H := fun _ w ho hs => ⟨v, m, B, U, ho.at_ _ _ hv, rfl, hm, hh w hs, hK⟩
theorem WQ.stored {S B U : SHeap} {m0 : Mem} {K : Mem → SHeap → SHeap → Prop} (hm : m0.le m) (hh : ∀ w, Sat w0 m H w → Sat w0 m (S ++ B ++ U) w) (hK : K m (S ++ B) U) :
    WQ n w0 (QN w0 ds S m0 K) .normal r ds m H := fun _ w _ hs => ⟨m, B, U, rfl, hm, hh w hs, hK⟩
/-- what is left of a region: V tells which operations are done, or calm; S is what none of them changes -/
def WE (P : Program) (ro : Option Nat) (n : Nat) (w0 : World) (l : List Oper) (g : Nat) (ds : List Nat) (K : Env → Mem → SHeap → SHeap → Prop) : Nat → Nat → Env → Mem → SHeap → SHeap → Prop
  | 0, _, _, _, _, _ => False
  | k + 1, V, r, m, S, U =>
    ((∀ i, i < g → V.testBit i = true) ∧ K r m S U) ∨
    (∃ i o d v, i < g ∧ l[i]? = some o ∧ V.testBit i = false ∧ readyV V o ∧ o.dst = some d ∧ (∀ c, o.op ≠ .defer c) ∧
      (∀ m' F, m.le m' → WL P ro n w0 l.toArray (Q1 w0 d v ds m' (S ++ F)) [o] (Env.sel (o.looksAt l.toArray) r) ds m' (S ++ F)) ∧
      WE P ro n w0 l g ds K k (V ||| 1 <<< i) ((d, v) :: r) m S U) ∨
    ((∃ i, i < g ∧ V.testBit i = false) ∧ ∀ i o, i < g → l[i]? = some o → V.testBit i = false → readyV V o → (∃ d, o.dst = some d ∧ (∀ c, o.op ≠ .defer c) ∧
      WL P ro n w0 l.toArray (QE w0 d ds S m fun v m' S' U' => WE P ro n w0 l g ds K k (V ||| 1 <<< i) ((d, v) :: r) m' S' U') [o] (Env.sel (o.looksAt l.toArray) r) ds m (S ++ U)) ∨
      (o.dst = none ∧ (∀ c, o.op ≠ .defer c) ∧ WL P ro n w0 l.toArray (QN w0 ds S m fun m' S' U' => WE P ro n w0 l g ds K k (V ||| 1 <<< i) r m' S' U') [o] (Env.sel (o.looksAt l.toArray) r) ds m (S ++ U)))
theorem bit_set (V i j : Nat) : (V ||| 1 <<< i).testBit j = (V.testBit j || decide (i = j)) := by
  rw [Nat.testBit_or, Nat.one_shiftLeft, Nat.testBit_two_pow]
theorem bit_keep {V i j : Nat} (h : V.testBit j = true) : (V ||| 1 <<< i).testBit j = true := by rw [bit_set, h]; rfl
theorem bit_self (V i : Nat) : (V ||| 1 <<< i).testBit i = true := by rw [bit_set]; simp
theorem bit_old {V i j : Nat} (h : (V ||| 1 <<< i).testBit j = true) (hne : j ≠ i) : V.testBit j = true := by
  rw [bit_set] at h
  have : decide (i = j) = false := by simp; exact fun e => hne e.symm
  simpa [this] using h
theorem mask_in {l : List Oper} {g : Nat} {M : List Nat} (ok : DrawOk l g M) {p : Nat → Prop} {b : Nat} (hb : b ≤ l.length) (hc : ∀ j o, j < b → l[j]? = some o → p j → ∀ e ∈ o.after, bind1 e = true → p e.on) :
    ∀ j o, j < b → l[j]? = some o → (∀ e ∈ o.after, bind1 e = true → p e.on) → ∀ i, (M.getD j 0).testBit i = true → p i := by
  intro j
  induction j using Nat.strongRecOn with
  | _ j ih =>
    intro o hjb ho hw i hi
    rw [← ok.sub j o ho, Nat.testBit_and, Bool.and_eq_true] at hi
    rcases mask_bits M o.after.toList 0 i hi.2 with h | ⟨e, he, hbd, h⟩
    · simp at h
    · have he' : e ∈ o.after := by simpa using he
      have hon := hw e he' hbd
      rcases h with rfl | h
      · exact hon
      · have hlt := ok.down j o ho e he' hbd
        have hl : e.on < l.length := by omega
        exact ih e.on hlt l[e.on] (by omega) (List.getElem?_eq_getElem hl) (hc e.on _ (by omega) (List.getElem?_eq_getElem hl) hon) i h
/-- from what an operation owes, whatever comes behind it -/
theorem wpOp_of_post {ops : Array Oper} {i : Nat} {o : Oper} {d : Nat} {tmps : Array Value} {w : World} {Qx : Exit → Act → World → Prop} {K : Act → World → Prop} (hi : ops[i]? = some o) (hd : o.dst = some d) (hnd : ∀ c, o.op ≠ .defer c)
    (hdf : ∀ a w, Qx .normal a w → a.defers = marks ds) (hbad : ∀ e a w, Qx e a w → e = .normal)
    (h : wpListIn (FW ro) 0 P ops Qx [o] ⟨tmps, marks ds⟩ w) (hK : ∀ v0 w', Qx .normal ⟨tmps.setIfInBounds d v0, marks ds⟩ w' → K ⟨tmps.setIfInBounds d v0, marks ds⟩ w') : wpOpIn (FW ro) 0 P ops Q i K ⟨tmps, marks ds⟩ w := by
  have key : ∀ v0 w', Qx .normal ((Act.mk tmps (marks ds)).put o.dst v0) w' → K ((Act.mk tmps (marks ds)).put o.dst v0) w' := by
    intro v0 w' hq
    rw [hd] at hq ⊢
    exact hK v0 w' hq
  unfold wpOpIn
  rw [hi]
  unfold wpListIn at h
  simp only
  split
  · rename_i hw
    rw [if_pos hw] at h
    refine ⟨h.1, ?_⟩
    have h2 := h.2
    rw [semAt_exec (FW ro).round _ _ hnd] at h2 ⊢
    generalize hr : (execOp (Act.mk tmps (marks ds)).eval o).run P w = res at *
    cases res with
    | ok x w' =>
      cases x <;> simp only [Oper.uponIn] at h2 ⊢
      case value v0 => exact key _ _ h2
      case skip => exact key _ _ h2
      case defer df =>
        exfalso
        have h4 := congrArg List.length (hdf _ _ h2)
        rw [hd] at h4
        simp [Act.put] at h4
      case enter f args => exact ⟨h2.1, CallsIn.mono h2.2 fun e w'' he => by
        cases e with
        | returned v0 => exact key _ _ he
        | panicked chain => exact absurd (hbad _ _ _ he) (by simp)
        | outgrown => obtain ⟨a, b, hh⟩ := he; exact absurd (hbad _ _ _ hh) (by simp)⟩
      case row rw' args => exact ⟨h2.1, RowsIn.mono h2.2 fun v0 w'' he => key _ _ he⟩
      case round l f tm asg bd => exact ⟨h2.1, RoundIn.mono h2.2 fun e w'' he => by
        cases e with
        | returned v0 => exact key _ _ he
        | panicked chain => exact absurd (hbad _ _ _ he) (by simp)
        | outgrown => obtain ⟨a, b, hh⟩ := he; exact absurd (hbad _ _ _ hh) (by simp)⟩
    | halt x w' =>
      cases x <;> simp only [Oper.uponIn] at h2 ⊢
      all_goals first | exact h2.elim | exact absurd (hbad _ _ _ h2) (by simp) | exact absurd (hbad _ _ _ h2.2) (by simp) | skip
  · rename_i hw
    rw [if_neg hw] at h
    exact ⟨h.1, key _ _ h.2⟩
/-- the same without an answer -/
theorem wpOp_of_postN {ops : Array Oper} {i : Nat} {o : Oper} {tmps : Array Value} {w : World} {Qx : Exit → Act → World → Prop} {K : Act → World → Prop} (hi : ops[i]? = some o) (hd : o.dst = none) (hnd : ∀ c, o.op ≠ .defer c)
    (hdf : ∀ a w, Qx .normal a w → a.defers = marks ds) (hbad : ∀ e a w, Qx e a w → e = .normal)
    (h : wpListIn (FW ro) 0 P ops Qx [o] ⟨tmps, marks ds⟩ w) (hK : ∀ w', Qx .normal ⟨tmps, marks ds⟩ w' → K ⟨tmps, marks ds⟩ w') : wpOpIn (FW ro) 0 P ops Q i K ⟨tmps, marks ds⟩ w := by
  have key : ∀ v0 w', Qx .normal ((Act.mk tmps (marks ds)).put o.dst v0) w' → K ((Act.mk tmps (marks ds)).put o.dst v0) w' := by
    intro v0 w' hq
    rw [hd] at hq ⊢
    exact hK w' hq
  unfold wpOpIn
  rw [hi]
  unfold wpListIn at h
  simp only
  split
  · rename_i hw
    rw [if_pos hw] at h
    refine ⟨h.1, ?_⟩
    have h2 := h.2
    rw [semAt_exec (FW ro).round _ _ hnd] at h2 ⊢
    generalize hr : (execOp (Act.mk tmps (marks ds)).eval o).run P w = res at *
    cases res with
    | ok x w' =>
      cases x <;> simp only [Oper.uponIn] at h2 ⊢
      case value v0 => exact key _ _ h2
      case skip => exact key _ _ h2
      case defer df =>
        exfalso
        have h4 := congrArg List.length (hdf _ _ h2)
        rw [hd] at h4
        simp [Act.put] at h4
      case enter f args => exact ⟨h2.1, CallsIn.mono h2.2 fun e w'' he => by
        cases e with
        | returned v0 => exact key _ _ he
        | panicked chain => exact absurd (hbad _ _ _ he) (by simp)
        | outgrown => obtain ⟨a, b, hh⟩ := he; exact absurd (hbad _ _ _ hh) (by simp)⟩
      case row rw' args => exact ⟨h2.1, RowsIn.mono h2.2 fun v0 w'' he => key _ _ he⟩
      case round l f tm asg bd => exact ⟨h2.1, RoundIn.mono h2.2 fun e w'' he => by
        cases e with
        | returned v0 => exact key _ _ he
        | panicked chain => exact absurd (hbad _ _ _ he) (by simp)
        | outgrown => obtain ⟨a, b, hh⟩ := he; exact absurd (hbad _ _ _ hh) (by simp)⟩
    | halt x w' =>
      cases x <;> simp only [Oper.uponIn] at h2 ⊢
      all_goals first | exact h2.elim | exact absurd (hbad _ _ _ h2) (by simp) | exact absurd (hbad _ _ _ h2.2) (by simp) | skip
  · rename_i hw
    rw [if_neg hw] at h
    exact ⟨h.1, key _ _ h.2⟩
theorem count_set {l : List Oper} {listed : Array Bool} {i : Nat} (hs : listed.size = l.length) (hil : i < l.length) (hnl : listed.getD i false = false) :
    ((List.range l.length).filter fun k => !(listed.setIfInBounds i true).getD k false).length < ((List.range l.length).filter fun k => !listed.getD k false).length := by
  have hsub : List.Sublist ((List.range l.length).filter fun k => !(listed.setIfInBounds i true).getD k false) (((List.range l.length).filter fun k => !listed.getD k false).erase i) := by
    have hnd : ((List.range l.length).filter fun k => !listed.getD k false).Nodup := List.Pairwise.filter _ List.nodup_range
    rw [hnd.erase_eq_filter, List.filter_filter]
    refine sub_of_eq ?_
    apply List.filter_congr
    intro k hk
    simp only [Array.getD_eq_getD_getElem?]
    by_cases hik : i = k
    · subst hik; simp [show i < listed.size by omega]
    · rw [Array.getElem?_setIfInBounds_ne hik]; simp [Ne.symm hik]
  have hmem : i ∈ (List.range l.length).filter fun k => !listed.getD k false := by simp only [List.mem_filter, List.mem_range]; exact ⟨hil, by rw [hnl]; rfl⟩
  have h5 := hsub.length_le
  rw [List.length_erase_of_mem hmem] at h5
  have := List.length_pos_of_mem hmem
  omega
theorem listed_set {listed : Array Bool} {i j : Nat} (h : (listed.setIfInBounds i true).getD j false = true) (hne : j ≠ i) : listed.getD j false = true := by
  simp only [Array.getD_eq_getD_getElem?] at h ⊢
  rwa [Array.getElem?_setIfInBounds_ne (fun e => hne e.symm)] at h
theorem listed_keep {listed : Array Bool} {i j : Nat} (h : listed.getD j false = true) : (listed.setIfInBounds i true).getD j false = true := by
  simp only [Array.getD_eq_getD_getElem?] at h ⊢
  by_cases hij : i = j
  · subst hij
    by_cases hlt : i < listed.size
    · simp [hlt]
    · simp [Array.getElem?_eq_none (Nat.le_of_not_lt hlt)] at h
  · rwa [Array.getElem?_setIfInBounds_ne hij]
structure DInv (P : Program) (ro : Option Nat) (n : Nat) (w0 : World) (l : List Oper) (g : Nat) (M : List Nat) (ds : List Nat) (S : SHeap) (r0 : Env) (V : Nat) (r : Env) (m : Mem) (val : Nat → Value) (listed : Array Bool) (tmps : Array Value) : Prop where
  env : ∀ t u, r.get t = some u → (∃ j o, j < g ∧ V.testBit j = true ∧ l[j]? = some o ∧ o.dst = some t ∧ val j = u) ∨ (r0.get t = some u ∧ ∀ j o, j < g → V.testBit j = true → l[j]? = some o → o.dst ≠ some t)
  vclosed : ∀ j o, j < g → l[j]? = some o → V.testBit j = true → readyV V o
  rcd : ∀ i o, i < g → l[i]? = some o → V.testBit i = true → listed.getD i false = false → ∃ d ri, o.dst = some d ∧ (∀ c, o.op ≠ .defer c) ∧
    (∀ t ∈ o.looksAt l.toArray, ∀ u, ri.get t = some u → (∃ j oj, j < g ∧ l[j]? = some oj ∧ oj.dst = some t ∧ val j = u ∧ ∃ e ∈ o.after, bind1 e = true ∧ e.on = j) ∨ (r0.get t = some u ∧ ∀ j oj, j < g → l[j]? = some oj → oj.dst = some t → (M.getD j 0).testBit i = true)) ∧
    ∀ m' F, m.le m' → WL P ro n w0 l.toArray (Q1 w0 d (val i) ds m' (S ++ F)) [o] (Env.sel (o.looksAt l.toArray) ri) ds m' (S ++ F)
  size : listed.size = l.length
  closed : Closed l listed
  sub : ∀ j, j < g → listed.getD j false = true → V.testBit j = true
  tail : ∀ j, g ≤ j → j < l.length → listed.getD j false = false
  tsize : tmps.size = n
  done : ∀ j o d, j < g → listed.getD j false = true → l[j]? = some o → o.dst = some d → tmps[d]? = some (val j)
  old : ∀ t u, r0.get t = some u → (∀ j o, j < g → listed.getD j false = true → l[j]? = some o → o.dst ≠ some t) → tmps[t]? = some u
section sound
variable {l : List Oper} {g : Nat} {M : List Nat} {S U : SHeap} {r0 : Env} {V : Nat} {val : Nat → Value} {listed : Array Bool} {tmps : Array Value} {w : World}
theorem DInv.vmask (ok : DrawOk l g M) (h : DInv P ro n w0 l g M ds S r0 V r m val listed tmps) {j i : Nat} {o : Oper} (hj : j < g) (ho : l[j]? = some o) (hr : readyV V o) (hb : (M.getD j 0).testBit i = true) : V.testBit i = true :=
  mask_in ok ok.le (p := fun j => V.testBit j = true) (fun j o hj ho hp => h.vclosed j o hj ho hp) j o hj ho hr i hb
/-- what is drawn and already calm -/
theorem DInv.deferred (ok : DrawOk l g M) (h : DInv P ro n w0 l g M ds S r0 V r m val listed tmps) (hsat : Sat w0 m (S ++ U) w) {i : Nat} {o : Oper} (hi : i < g) (ho : l[i]? = some o) (hV : V.testBit i = true) (hnl : listed.getD i false = false)
    (hw : ∀ e ∈ o.after, bind1 e = true → listed.getD e.on false = true) {K : Act → World → Prop}
    (hK : ∀ tmps' w', DInv P ro n w0 l g M ds S r0 V r m val (listed.setIfInBounds i true) tmps' → Sat w0 m (S ++ U) w' → K ⟨tmps', marks ds⟩ w') : wpOpIn (FW ro) 0 P l.toArray Q i K ⟨tmps, marks ds⟩ w := by
  obtain ⟨d, ri, hd, hnd, hri, hwl⟩ := h.rcd i o hi ho hV hnl
  refine wpOp_of_q1 (m := m) (H := S ++ U) (w0 := w0) (v := val i) (by simpa using ho) hd hnd ?_ ?_
  · refine hwl m U (Mem.le.refl _) tmps w ⟨h.tsize, fun t u ht => ?_⟩ hsat
    obtain ⟨hlook, hget⟩ := Env.sel_get ht
    rcases hri t hlook u hget with ⟨j, oj, hj, hoj, hdj, hv, e, he, hb, hon⟩ | ⟨h0, hno⟩
    · have := hw e he hb
      rw [hon] at this
      rw [h.done j oj t hj this hoj hdj, hv]
    · refine h.old t u h0 (fun j oj hj hjl hoj hdj => ?_)
      have := mask_listed ok h.closed j oj hoj (h.closed j oj hoj hjl) i (hno j oj hj hoj hdj)
      rw [hnl] at this; cases this
  · intro w' hsat' hdlt
    have hil := (List.getElem?_eq_some_iff.1 ho).1
    refine hK _ w' ⟨h.env, h.vclosed, ?_, by simp [h.size], closed_set h.closed ho hw, ?_, ?_, by simp [h.tsize], ?_, ?_⟩ hsat'
    · intro i' o' hi' ho' hV' hnl'
      refine h.rcd i' o' hi' ho' hV' ?_
      cases hq : listed.getD i' false with
      | false => rfl
      | true => rw [listed_keep hq] at hnl'; cases hnl'
    · intro j hj hjl
      by_cases e : j = i
      · subst e; exact hV
      · exact h.sub j hj (listed_set hjl e)
    · intro j hj hjl
      cases hq : (listed.setIfInBounds i true).getD j false with
      | false => rfl
      | true => have := listed_set hq (by omega); rw [h.tail j hj hjl] at this; cases this
    · intro j oj dj hj hjl hoj hdj
      by_cases e : j = i
      · subst e
        rw [ho] at hoj; cases hoj
        rw [hd] at hdj; cases hdj
        exact Array.getElem?_setIfInBounds_self_of_lt hdlt
      · have hne : d ≠ dj := fun e2 => by
          subst e2
          exact e (ok.dst j oj hj hoj _ hdj i o hi ho hd)
        rw [Array.getElem?_setIfInBounds_ne hne]
        exact h.done j oj dj hj (listed_set hjl e) hoj hdj
    · intro t u ht hno
      have hil' : (listed.setIfInBounds i true).getD i false = true := by simp [show i < listed.size by rw [h.size]; exact hil]
      have hne : d ≠ t := fun e => by subst e; exact hno i o hi hil' ho hd
      rw [Array.getElem?_setIfInBounds_ne hne]
      exact h.old t u ht (fun j oj hj hjl hoj => hno j oj hj (listed_keep hjl) hoj)
/-- one more is calm -/
theorem DInv.calm (ok : DrawOk l g M) (h : DInv P ro n w0 l g M ds S r0 V r m val listed tmps) {i d : Nat} {o : Oper} {v : Value} (hi : i < g) (ho : l[i]? = some o) (hV : V.testBit i = false) (hr : readyV V o) (hd : o.dst = some d) (hnd : ∀ c, o.op ≠ .defer c)
    (hwl : ∀ m' F, m.le m' → WL P ro n w0 l.toArray (Q1 w0 d v ds m' (S ++ F)) [o] (Env.sel (o.looksAt l.toArray) r) ds m' (S ++ F)) :
    DInv P ro n w0 l g M ds S r0 (V ||| 1 <<< i) ((d, v) :: r) m (fun j => if j = i then v else val j) listed tmps := by
  have hval : ∀ j, V.testBit j = true → (if j = i then v else val j) = val j := fun j hj => if_neg (fun e => by subst e; rw [hV] at hj; cases hj)
  refine ⟨?_, ?_, ?_, h.size, h.closed, fun j hj hjl => bit_keep (h.sub j hj hjl), h.tail, h.tsize, ?_, h.old⟩
  · intro t u ht
    simp only [Env.get] at ht
    cases hq : Nat.beq d t with
    | true =>
      have e := Nat.eq_of_beq_eq_true hq
      subst e
      simp [hq] at ht
      subst ht
      exact .inl ⟨i, o, hi, bit_self V i, ho, hd, if_pos rfl⟩
    | false =>
      simp [hq] at ht
      rcases h.env t u ht with ⟨j, oj, hj, hjV, hoj, hdj, hv⟩ | ⟨h0, hno⟩
      · exact .inl ⟨j, oj, hj, bit_keep hjV, hoj, hdj, by rw [hval j hjV]; exact hv⟩
      · refine .inr ⟨h0, fun j oj hj hjV hoj hdj => ?_⟩
        by_cases e : j = i
        · subst e
          rw [ho] at hoj; cases hoj
          rw [hd] at hdj; cases hdj
          exact Nat.ne_of_beq_eq_false hq rfl
        · exact hno j oj hj (bit_old hjV e) hoj hdj
  · intro j oj hj hoj hjV e he hb
    by_cases e2 : j = i
    · subst e2
      rw [ho] at hoj; cases hoj
      exact bit_keep (hr e he hb)
    · exact bit_keep (h.vclosed j oj hj hoj (bit_old hjV e2) e he hb)
  · intro i' o' hi' ho' hV' hnl'
    by_cases e : i' = i
    · subst e
      rw [ho] at ho'; cases ho'
      refine ⟨d, r, hd, hnd, ?_, ?_⟩
      · intro t hlook u hget
        rcases h.env t u hget with ⟨j, oj, hj, hjV, hoj, hdj, hv⟩ | ⟨h0, hno⟩
        · rcases ok.reads i' o hi ho t hlook j oj hj hoj hdj with ⟨_, e, he, hb, hon⟩ | ⟨_, hbit⟩
          · exact .inl ⟨j, oj, hj, hoj, hdj, by rw [hval j hjV]; exact hv, e, he, hb, hon⟩
          · have := h.vmask ok hj hoj (h.vclosed j oj hj hoj hjV) hbit
            rw [hV] at this; cases this
        · refine .inr ⟨h0, fun j oj hj hoj hdj => ?_⟩
          rcases ok.reads i' o hi ho t hlook j oj hj hoj hdj with ⟨_, e, he, hb, hon⟩ | ⟨_, hbit⟩
          · have := hr e he hb
            rw [hon] at this
            exact absurd hdj (hno j oj hj this hoj)
          · exact hbit
      · simp only [if_true]
        exact hwl
    · have hVo := bit_old hV' e
      obtain ⟨d', ri, k1, k2, k3, k4⟩ := h.rcd i' o' hi' ho' hVo hnl'
      refine ⟨d', ri, k1, k2, ?_, by rw [hval i' hVo]; exact k4⟩
      intro t hlook u hget
      rcases k3 t hlook u hget with ⟨j, oj, hj, hoj, hdj, hv, e', he', hb', hon'⟩ | h2
      · have hjV : V.testBit j = true := by have := h.vclosed i' o' hi' ho' hVo e' he' hb'; rwa [hon'] at this
        exact .inl ⟨j, oj, hj, hoj, hdj, by rw [hval j hjV]; exact hv, e', he', hb', hon'⟩
      · exact .inr h2
  · intro j oj dj hj hjl hoj hdj
    rw [hval j (h.sub j hj hjl)]
    exact h.done j oj dj hj hjl hoj hdj
/-- one acts -/
theorem DInv.act (ok : DrawOk l g M) (h : DInv P ro n w0 l g M ds S r0 V r m val listed tmps) {i d : Nat} {o : Oper} {v : Value} {m' : Mem} {B : SHeap} (hi : i < g) (ho : l[i]? = some o) (hV : V.testBit i = false)
    (hw : ∀ e ∈ o.after, bind1 e = true → listed.getD e.on false = true) (hd : o.dst = some d) (hm : m.le m') (hdlt : d < tmps.size) :
    DInv P ro n w0 l g M ds (S ++ B) r0 (V ||| 1 <<< i) ((d, v) :: r) m' (fun j => if j = i then v else val j) (listed.setIfInBounds i true) (tmps.setIfInBounds d v) := by
  have hval : ∀ j, V.testBit j = true → (if j = i then v else val j) = val j := fun j hj => if_neg (fun e => by subst e; rw [hV] at hj; cases hj)
  have hil := (List.getElem?_eq_some_iff.1 ho).1
  have hr : readyV V o := fun e he hb => h.sub e.on (by have := ok.down i o ho e he hb; omega) (hw e he hb)
  refine ⟨?_, ?_, ?_, by simp [h.size], closed_set h.closed ho hw, ?_, ?_, by simp [h.tsize], ?_, ?_⟩
  · intro t u ht
    simp only [Env.get] at ht
    cases hq : Nat.beq d t with
    | true =>
      have e := Nat.eq_of_beq_eq_true hq
      subst e
      simp [hq] at ht
      subst ht
      exact .inl ⟨i, o, hi, bit_self V i, ho, hd, if_pos rfl⟩
    | false =>
      simp [hq] at ht
      rcases h.env t u ht with ⟨j, oj, hj, hjV, hoj, hdj, hv⟩ | ⟨h0, hno⟩
      · exact .inl ⟨j, oj, hj, bit_keep hjV, hoj, hdj, by rw [hval j hjV]; exact hv⟩
      · refine .inr ⟨h0, fun j oj hj hjV hoj hdj => ?_⟩
        by_cases e : j = i
        · subst e
          rw [ho] at hoj; cases hoj
          rw [hd] at hdj; cases hdj
          exact Nat.ne_of_beq_eq_false hq rfl
        · exact hno j oj hj (bit_old hjV e) hoj hdj
  · intro j oj hj hoj hjV e he hb
    by_cases e2 : j = i
    · subst e2
      rw [ho] at hoj; cases hoj
      exact bit_keep (hr e he hb)
    · exact bit_keep (h.vclosed j oj hj hoj (bit_old hjV e2) e he hb)
  · intro i' o' hi' ho' hV' hnl'
    have e : i' ≠ i := fun e => by
      subst e
      have : (listed.setIfInBounds i' true).getD i' false = true := by simp [show i' < listed.size by rw [h.size]; exact hil]
      rw [this] at hnl'; cases hnl'
    have hVo := bit_old hV' e
    have hnl : listed.getD i' false = false := by
      cases hq : listed.getD i' false with
      | false => rfl
      | true => rw [listed_keep hq] at hnl'; cases hnl'
    obtain ⟨d', ri, k1, k2, k3, k4⟩ := h.rcd i' o' hi' ho' hVo hnl
    refine ⟨d', ri, k1, k2, ?_, by rw [hval i' hVo]; exact fun m'' F hle => by rw [List.append_assoc]; exact k4 m'' (B ++ F) (hm.trans hle)⟩
    intro t hlook u hget
    rcases k3 t hlook u hget with ⟨j, oj, hj, hoj, hdj, hv, e', he', hb', hon'⟩ | h2
    · have hjV : V.testBit j = true := by have := h.vclosed i' o' hi' ho' hVo e' he' hb'; rwa [hon'] at this
      exact .inl ⟨j, oj, hj, hoj, hdj, by rw [hval j hjV]; exact hv, e', he', hb', hon'⟩
    · exact .inr h2
  · intro j hj hjl
    by_cases e : j = i
    · subst e; exact bit_self V j
    · exact bit_keep (h.sub j hj (listed_set hjl e))
  · intro j hj hjl
    cases hq : (listed.setIfInBounds i true).getD j false with
    | false => rfl
    | true => have := listed_set hq (by omega); rw [h.tail j hj hjl] at this; cases this
  · intro j oj dj hj hjl hoj hdj
    by_cases e : j = i
    · subst e
      rw [ho] at hoj; cases hoj
      rw [hd] at hdj; cases hdj
      simp only [if_true]
      exact Array.getElem?_setIfInBounds_self_of_lt hdlt
    · have hjl' := listed_set hjl e
      have hne : d ≠ dj := fun e2 => by
        subst e2
        exact e (ok.dst j oj hj hoj _ hdj i o hi ho hd)
      rw [Array.getElem?_setIfInBounds_ne hne, hval j (h.sub j hj hjl')]
      exact h.done j oj dj hj hjl' hoj hdj
  · intro t u ht hno
    have hil' : (listed.setIfInBounds i true).getD i false = true := by simp [show i < listed.size by rw [h.size]; exact hil]
    have hne : d ≠ t := fun e => by subst e; exact hno i o hi hil' ho hd
    rw [Array.getElem?_setIfInBounds_ne hne]
    exact h.old t u ht (fun j oj hj hjl hoj => hno j oj hj (listed_keep hjl) hoj)
/-- one acts that has no answer -/
theorem DInv.actN (ok : DrawOk l g M) (h : DInv P ro n w0 l g M ds S r0 V r m val listed tmps) {i : Nat} {o : Oper} {m' : Mem} {B : SHeap} (hi : i < g) (ho : l[i]? = some o) (hV : V.testBit i = false)
    (hw : ∀ e ∈ o.after, bind1 e = true → listed.getD e.on false = true) (hd : o.dst = none) (hm : m.le m') :
    DInv P ro n w0 l g M ds (S ++ B) r0 (V ||| 1 <<< i) r m' val (listed.setIfInBounds i true) tmps := by
  have hil := (List.getElem?_eq_some_iff.1 ho).1
  have hr : readyV V o := fun e he hb => h.sub e.on (by have := ok.down i o ho e he hb; omega) (hw e he hb)
  refine ⟨?_, ?_, ?_, by simp [h.size], closed_set h.closed ho hw, ?_, ?_, h.tsize, ?_, ?_⟩
  · intro t u ht
    rcases h.env t u ht with ⟨j, oj, hj, hjV, hoj, hdj, hv⟩ | ⟨h0, hno⟩
    · exact .inl ⟨j, oj, hj, bit_keep hjV, hoj, hdj, hv⟩
    · refine .inr ⟨h0, fun j oj hj hjV hoj hdj => ?_⟩
      by_cases e : j = i
      · subst e
        rw [ho] at hoj; cases hoj
        rw [hd] at hdj; cases hdj
      · exact hno j oj hj (bit_old hjV e) hoj hdj
  · intro j oj hj hoj hjV e he hb
    by_cases e2 : j = i
    · subst e2
      rw [ho] at hoj; cases hoj
      exact bit_keep (hr e he hb)
    · exact bit_keep (h.vclosed j oj hj hoj (bit_old hjV e2) e he hb)
  · intro i' o' hi' ho' hV' hnl'
    have e : i' ≠ i := fun e => by
      subst e
      have : (listed.setIfInBounds i' true).getD i' false = true := by simp [show i' < listed.size by rw [h.size]; exact hil]
      rw [this] at hnl'; cases hnl'
    have hVo := bit_old hV' e
    have hnl : listed.getD i' false = false := by
      cases hq : listed.getD i' false with
      | false => rfl
      | true => rw [listed_keep hq] at hnl'; cases hnl'
    obtain ⟨d', ri, k1, k2, k3, k4⟩ := h.rcd i' o' hi' ho' hVo hnl
    exact ⟨d', ri, k1, k2, k3, fun m'' F hle => by rw [List.append_assoc]; exact k4 m'' (B ++ F) (hm.trans hle)⟩
  · intro j hj hjl
    by_cases e : j = i
    · subst e; exact bit_self V j
    · exact bit_keep (h.sub j hj (listed_set hjl e))
  · intro j hj hjl
    cases hq : (listed.setIfInBounds i true).getD j false with
    | false => rfl
    | true => have := listed_set hq (by omega); rw [h.tail j hj hjl] at this; cases this
  · intro j oj dj hj hjl hoj hdj
    by_cases e : j = i
    · subst e
      rw [ho] at hoj; cases hoj
      rw [hd] at hdj; cases hdj
    · exact h.done j oj dj hj (listed_set hjl e) hoj hdj
  · intro t u ht hno
    exact h.old t u ht (fun j oj hj hjl hoj => hno j oj hj (listed_keep hjl) hoj)
theorem we_any (ok : DrawOk l g M) {K : Env → Mem → SHeap → SHeap → Prop} (hK : ∀ r m S U, K r m S U → WL P ro n w0 l.toArray Q (l.drop g) r ds m (S ++ U)) :
    ∀ (fuel k : Nat) (V : Nat) (r : Env) (m : Mem) (S U : SHeap) (val : Nat → Value) (listed : Array Bool) (tmps : Array Value) (w : World),
      WE P ro n w0 l g ds K k V r m S U → DInv P ro n w0 l g M ds S r0 V r m val listed tmps → Sat w0 m (S ++ U) w →
      ((List.range l.length).filter fun i => !listed.getD i false).length ≤ fuel → wpAnyIn (FW ro) 0 P .any l.toArray Q fuel listed ⟨tmps, marks ds⟩ w := by
  -- where all is done
  have final : ∀ (fuel : Nat) (V : Nat) (r : Env) (m : Mem) (S U : SHeap) (val : Nat → Value) (listed : Array Bool) (tmps : Array Value) (w : World), K r m S U → DInv P ro n w0 l g M ds S r0 V r m val listed tmps → Sat w0 m (S ++ U) w →
      (∀ i, i < g → listed.getD i false = true) → (∀ i, i < g → V.testBit i = true) → ((List.range l.length).filter fun i => !listed.getD i false).length ≤ fuel → wpAnyIn (FW ro) 0 P .any l.toArray Q fuel listed ⟨tmps, marks ds⟩ w := by
    intro fuel V r m S U val listed tmps w hk hI hs hall hV hf
    refine tail_any ok fuel g listed _ _ hI.size (Nat.le_refl _) ok.le (fun i hi => ⟨fun h => ?_, hall i⟩) ?_ ?_
    · rcases Nat.lt_or_ge i g with hlt | hge
      · exact hlt
      · rw [hI.tail i hge hi] at h; cases h
    · have : (List.range l.length).filter (fun i => !listed.getD i false) = (List.range l.length).filter (fun i => decide (g ≤ i)) := by
        apply List.filter_congr
        intro i hi
        have hi' := List.mem_range.1 hi
        rcases Nat.lt_or_ge i g with hlt | hge
        · rw [hall i hlt]; simp; omega
        · rw [hI.tail i hge hi']; simp [hge]
      rw [this] at hf
      have hcnt : l.length - g ≤ ((List.range l.length).filter (fun i => decide (g ≤ i))).length := by
        have hsub : List.Sublist (List.range' g (l.length - g)) ((List.range l.length).filter (fun i => decide (g ≤ i))) := by
          obtain ⟨k, hk⟩ : ∃ k, l.length = g + k := ⟨l.length - g, by have := ok.le; omega⟩
          have e : List.range l.length = List.range' 0 g ++ List.range' g (l.length - g) := by
            rw [List.range_eq_range', hk, Nat.add_sub_cancel_left]
            have := @List.range'_append 0 g k 1
            simpa using this.symm
          rw [e, List.filter_append]
          refine List.Sublist.trans ?_ (List.sublist_append_right _ _)
          rw [List.filter_eq_self.2 (fun i hi => by have := List.mem_range'_1.1 hi; simp; omega)]
          exact List.Sublist.refl _
        have := hsub.length_le
        simpa using this
      omega
    · refine hK r m S U hk tmps w ⟨hI.tsize, fun t u ht => ?_⟩ hs
      rcases hI.env t u ht with ⟨j, o, hj, _, hoj, hdj, hv⟩ | ⟨h0, hno⟩
      · rw [hI.done j o t hj (hall j hj) hoj hdj, hv]
      · exact hI.old t u h0 (fun j o hj hjl hoj => hno j o hj (hV j hj) hoj)
  intro fuel
  induction fuel with
  | zero =>
    intro k
    induction k with
    | zero => intro V r m S U val listed tmps w h; exact h.elim
    | succ k ihk =>
      intro V r m S U val listed tmps w h hI hs hf
      have hall : ∀ i, i < l.length → listed.getD i false = true := by
        intro i hi
        cases hq : listed.getD i false with
        | true => rfl
        | false =>
          exfalso
          have : i ∈ (List.range l.length).filter fun i => !listed.getD i false := by simp only [List.mem_filter, List.mem_range]; exact ⟨hi, by rw [hq]; rfl⟩
          have h0 := List.eq_nil_of_length_eq_zero (Nat.le_zero.1 hf)
          rw [h0] at this; cases this
      have hV : ∀ i, i < g → V.testBit i = true := fun i hi => hI.sub i hi (hall i (by have := ok.le; omega))
      rcases h with ⟨_, hk⟩ | ⟨i, o, d, v, hi, _, hVi, _⟩ | ⟨⟨i, hi, hVi⟩, _⟩
      · exact final 0 V r m S U val listed tmps w hk hI hs (fun i hi => hall i (by have := ok.le; omega)) hV hf
      · rw [hV i hi] at hVi; cases hVi
      · rw [hV i hi] at hVi; cases hVi
  | succ fuel ihf =>
    intro k
    induction k with
    | zero => intro V r m S U val listed tmps w h; exact h.elim
    | succ k ihk =>
      intro V r m S U val listed tmps w h hI hs hf
      by_cases hcalm : ∃ i o d v, i < g ∧ l[i]? = some o ∧ V.testBit i = false ∧ readyV V o ∧ o.dst = some d ∧ (∀ c, o.op ≠ .defer c) ∧
          (∀ m' F, m.le m' → WL P ro n w0 l.toArray (Q1 w0 d v ds m' (S ++ F)) [o] (Env.sel (o.looksAt l.toArray) r) ds m' (S ++ F)) ∧ WE P ro n w0 l g ds K k (V ||| 1 <<< i) ((d, v) :: r) m S U
      · obtain ⟨i, o, d, v, hi, ho, hV, hr, hd, hnd, hwl, hwe⟩ := hcalm
        exact ihk _ _ m S U _ listed tmps w hwe (hI.calm ok hi ho hV hr hd hnd hwl) hs hf
      -- an operation that is calm already, or one that acts
      have hcount : ∀ i, i < l.length → listed.getD i false = false → ((List.range l.length).filter fun k => !(listed.setIfInBounds i true).getD k false).length ≤ fuel := fun i hi hnl => by
        have := count_set hI.size hi hnl; omega
      by_cases hfin : ∀ i, i < g → listed.getD i false = true
      · have hV : ∀ i, i < g → V.testBit i = true := fun i hi => hI.sub i hi (hfin i hi)
        rcases h with ⟨_, hk⟩ | h | ⟨⟨i, hi, hVi⟩, _⟩
        · exact final _ V r m S U val listed tmps w hk hI hs hfin hV hf
        · exact absurd h hcalm
        · rw [hV i hi] at hVi; cases hVi
      refine ⟨fun hr => absurd (fun i hi => nothing_ready ok hI.size hr i (by have := ok.le; omega)) hfin, fun i hir => ?_⟩
      obtain ⟨h1, o, h2, h3⟩ := ready_of hir
      have hil := (List.getElem?_eq_some_iff.1 h2).1
      have hig : i < g := by
        rcases Nat.lt_or_ge i g with hlt | hge
        · exact hlt
        · exfalso
          refine hfin (fun k hk => ?_)
          exact mask_listed ok hI.closed i o h2 h3 k (ok.all i hge hil k (by omega))
      have hnl : listed.getD i false = false := by
        have hsz := hI.size
        simp only [Array.getD_eq_getD_getElem?] at h1 ⊢
        rw [Array.getElem?_eq_getElem (by omega)] at h1 ⊢
        exact h1
      cases hVi : V.testBit i with
      | true =>
        refine hI.deferred ok hs hig h2 hVi hnl h3 (fun tmps' w' hI' hs' => ?_)
        exact ihf (k + 1) V r m S U val _ tmps' w' h hI' hs' (hcount i hil hnl)
      | false =>
        rcases h with ⟨hV, _⟩ | h | ⟨_, h⟩
        · rw [hV i hig] at hVi; cases hVi
        · exact absurd h hcalm
        · have hrV : readyV V o := fun e he hb => hI.sub e.on (by have := ok.down i o h2 e he hb; omega) (h3 e he hb)
          have henv : ∀ t u, (Env.sel (o.looksAt l.toArray) r).get t = some u → tmps[t]? = some u := by
            intro t u ht
            obtain ⟨hlook, hget⟩ := Env.sel_get ht
            rcases hI.env t u hget with ⟨j, oj, hj, hjV, hoj, hdj, hv⟩ | ⟨h0, hno⟩
            · rcases ok.reads i o hig h2 t hlook j oj hj hoj hdj with ⟨_, e, he, hb, hon⟩ | ⟨_, hbit⟩
              · have := h3 e he hb
                rw [hon] at this
                rw [hI.done j oj t hj this hoj hdj, hv]
              · have := hI.vmask ok hj hoj (hI.vclosed j oj hj hoj hjV) hbit
                rw [hVi] at this; cases this
            · exact hI.old t u h0 (fun j oj hj hjl hoj => hno j oj hj (hI.sub j hj hjl) hoj)
          rcases h i o hig h2 hVi hrV with ⟨d, hd, hnd, hwl⟩ | ⟨hd, hnd, hwl⟩
          · refine wpOp_of_post (by simpa using h2) hd hnd ?_ ?_ (hwl tmps w ⟨hI.tsize, henv⟩ hs) ?_
            · rintro a w ⟨v, m', B, U', _, hdf, _⟩; exact hdf
            · intro e a w hq
              cases e <;> first | rfl | exact hq.elim
            · rintro v0 w' ⟨v, m', B, U', hv, _, hm, hs', hwe⟩
              have hdlt : d < tmps.size := by
                rcases Nat.lt_or_ge d tmps.size with hlt | hge
                · exact hlt
                · simp only at hv
                  rw [Array.getElem?_eq_none (by simpa using hge)] at hv; cases hv
              have hv0 : v0 = v := by
                simp only at hv
                rw [Array.getElem?_setIfInBounds_self_of_lt hdlt] at hv
                exact Option.some.inj hv
              subst hv0
              exact ihf k _ _ m' (S ++ B) U' _ _ _ w' hwe (hI.act ok hig h2 hVi h3 hd hm hdlt) hs' (hcount i hil hnl)
          · refine wpOp_of_postN (by simpa using h2) hd hnd ?_ ?_ (hwl tmps w ⟨hI.tsize, henv⟩ hs) ?_
            · rintro a w ⟨m', B, U', hdf, _⟩; exact hdf
            · intro e a w hq
              cases e <;> first | rfl | exact hq.elim
            · rintro w' ⟨m', B, U', _, hm, hs', hwe⟩
              exact ihf k _ _ m' (S ++ B) U' _ _ _ w' hwe (hI.actN ok hig h2 hVi h3 hd hm) hs' (hcount i hil hnl)
end sound
def readyB (V : Nat) (o : Oper) : Bool := o.after.all fun e => !bind1 e || V.testBit e.on
theorem readyB_iff {V : Nat} {o : Oper} : readyB V o = true ↔ readyV V o := by
  unfold readyB readyV
  rw [Array.all_eq_true']
  constructor
  · intro h e he hb
    have := h e he
    simpa [hb] using this
  · intro h e he
    cases hb : bind1 e with
    | false => simp
    | true => simp [h e he hb]
/-- no operation but these may come next -/
def onlyB (l : List Oper) (g V : Nat) (js : List Nat) : Bool :=
  ((List.range g).any fun i => !V.testBit i) && ((List.range g).all fun i => V.testBit i || js.contains i || match l[i]? with | some o => !readyB V o | none => true)
theorem onlyB_ok {l : List Oper} {g V : Nat} {js : List Nat} (h : onlyB l g V js = true) : (∃ i, i < g ∧ V.testBit i = false) ∧ ∀ i o, i < g → l[i]? = some o → V.testBit i = false → readyV V o → i ∈ js := by
  unfold onlyB at h
  rw [Bool.and_eq_true] at h
  constructor
  · obtain ⟨i, hi, hV⟩ := List.any_eq_true.1 h.1
    exact ⟨i, List.mem_range.1 hi, by simpa using hV⟩
  · intro i o hi ho hV hr
    have := List.all_eq_true.1 h.2 i (List.mem_range.2 hi)
    have hrb := readyB_iff.2 hr
    rw [ho, hV] at this
    simpa [hrb] using this
section build
variable {l : List Oper} {g : Nat} {S U : SHeap} {K : Env → Mem → SHeap → SHeap → Prop} {k V : Nat}
theorem WE.done (h : ((List.range g).all fun i => V.testBit i) = true) (hK : K r m S U) : WE P ro n w0 l g ds K (k + 1) V r m S U :=
  .inl ⟨fun i hi => List.all_eq_true.1 h i (List.mem_range.2 hi), hK⟩
theorem WE.calm (i : Nat) {o : Oper} {d : Nat} {v : Value} (hV : V.testBit i = false) (hi : Nat.blt i g = true) (ho : l[i]? = some o) (hr : readyB V o = true) (hd : o.dst = some d) (hnd : ∀ c, o.op ≠ .defer c)
    (hwl : ∀ m' F, m.le m' → WL P ro n w0 l.toArray (Q1 w0 d v ds m' (S ++ F)) [o] (Env.sel (o.looksAt l.toArray) r) ds m' (S ++ F))
    (h : WE P ro n w0 l g ds K k (V ||| 1 <<< i) ((d, v) :: r) m S U) : WE P ro n w0 l g ds K (k + 1) V r m S U :=
  .inr (.inl ⟨i, o, d, v, by simpa [Nat.blt_eq] using hi, ho, hV, readyB_iff.1 hr, hd, hnd, hwl, h⟩)
/-- what one that acts owes -/
def Acts (P : Program) (ro : Option Nat) (n : Nat) (w0 : World) (l : List Oper) (g : Nat) (ds : List Nat) (K : Env → Mem → SHeap → SHeap → Prop) (k V : Nat) (r : Env) (m : Mem) (S U : SHeap) (i : Nat) : Prop :=
  ∃ o d, l[i]? = some o ∧ o.dst = some d ∧ (∀ c, o.op ≠ .defer c) ∧
    WL P ro n w0 l.toArray (QE w0 d ds S m fun v m' S' U' => WE P ro n w0 l g ds K k (V ||| 1 <<< i) ((d, v) :: r) m' S' U') [o] (Env.sel (o.looksAt l.toArray) r) ds m (S ++ U)
theorem WE.acts (js : List Nat) (h : onlyB l g V js = true) (hj : ∀ i ∈ js, Acts P ro n w0 l g ds K k V r m S U i) : WE P ro n w0 l g ds K (k + 1) V r m S U := by
  obtain ⟨h1, h2⟩ := onlyB_ok h
  refine .inr (.inr ⟨h1, fun i o hi ho hV hr => ?_⟩)
  obtain ⟨o', d, ho', hd, hnd, hwl⟩ := hj i (h2 i o hi ho hV hr)
  rw [ho] at ho'; cases ho'
  exact .inl ⟨d, hd, hnd, hwl⟩
/-- a store comes next -/
theorem WE.act0 (i : Nat) {o : Oper} (h : onlyB l g V [i] = true) (ho : l[i]? = some o) (hd : o.dst = none) (hnd : ∀ c, o.op ≠ .defer c)
    (hwl : WL P ro n w0 l.toArray (QN w0 ds S m fun m' S' U' => WE P ro n w0 l g ds K k (V ||| 1 <<< i) r m' S' U') [o] (Env.sel (o.looksAt l.toArray) r) ds m (S ++ U)) : WE P ro n w0 l g ds K (k + 1) V r m S U := by
  obtain ⟨h1, h2⟩ := onlyB_ok h
  refine .inr (.inr ⟨h1, fun i' o' hi ho' hV hr => ?_⟩)
  have := h2 i' o' hi ho' hV hr
  rw [List.mem_singleton] at this
  subst this
  rw [ho] at ho'; cases ho'
  exact .inr ⟨hd, hnd, hwl⟩
theorem WE.act1 (i : Nat) {o : Oper} {d : Nat} (h : onlyB l g V [i] = true) (ho : l[i]? = some o) (hd : o.dst = some d) (hnd : ∀ c, o.op ≠ .defer c)
    (hwl : WL P ro n w0 l.toArray (QE w0 d ds S m fun v m' S' U' => WE P ro n w0 l g ds K k (V ||| 1 <<< i) ((d, v) :: r) m' S' U') [o] (Env.sel (o.looksAt l.toArray) r) ds m (S ++ U)) : WE P ro n w0 l g ds K (k + 1) V r m S U :=
  .acts [i] h (fun j hj => by rw [List.mem_singleton] at hj; subst hj; exact ⟨o, d, ho, hd, hnd, hwl⟩)
end build
/-- a region that draws its order, where some operations act -/
theorem WC.drawE {id : Nat} {l : List Oper} (g : Nat) (S U : SHeap) (hm : P.follows .mixedOrders = true) (hc : drawC l g = true) (hS : ∀ w, Sat w0 m H w → Sat w0 m (S ++ U) w)
    (h : WE P ro n w0 l g ds (fun r' m' S' U' => WL P ro n w0 l.toArray Q (l.drop g) r' ds m' (S' ++ U')) 200 0 r m S U) : WC P ro n w0 (.region id l.toArray true) Q r ds m H := by
  intro tmps w ho hs
  have ok := drawC_ok hc
  refine wpIn_region_draw fun t => ?_
  simp only [Region.schedule, hm, Bool.true_or, if_true]
  refine wpAnyIn_sound _ _ _ _ _ ?_
  have hz : ∀ k, (Array.replicate l.length false).getD k false = false := by
    intro k
    simp only [Array.getD_eq_getD_getElem?]
    by_cases hk : k < l.length
    · simp [hk]
    · rw [Array.getElem?_eq_none (by simpa using hk)]; rfl
  have hsz : l.toArray.size = l.length := by simp
  rw [hsz]
  refine we_any (r0 := r) ok (fun _ _ _ _ h => h) l.length 200 0 r m S U (fun _ => undef) _ tmps _ h ?_ (hS _ hs.drew) ?_
  · refine ⟨fun t u ht => .inr ⟨ht, fun j o _ hj => ?_⟩, fun j o _ _ hj => ?_, fun i o _ _ hj => ?_, by simp, fun j o _ hj => ?_, fun j _ hj => ?_, fun j _ _ => hz j, ho.size, fun j o d _ hj => ?_, fun t u ht _ => ho.at_ t u ht⟩
    · simp at hj
    · simp at hj
    · simp at hj
    · rw [hz] at hj; cases hj
    · rw [hz] at hj; cases hj
    · rw [hz] at hj; cases hj
  · exact Nat.le_trans (List.length_filter_le _ _) (by simp)
end
end Go.Eng

/-
  A walk's engine: ways out of a block that meet again. No condition.
-/
set_option linter.all false
namespace Go.Eng
open Go Go.RowKit
section
variable {P : Program} {ro : Option Nat} {n : Nat} {w0 : World} {Q : Exit → Act → World → Prop} {r : Env} {ds : List Nat} {m : Mem} {H : SHeap}
def QJoinX (n : Nat) (w0 : World) (id : Nat) (I : Env → List Nat → Mem → SHeap → Prop) (Q : Exit → Act → World → Prop) : Exit → Act → World → Prop
  | .exit j, a, w => if j = id then ∃ r ds m H, I r ds m H ∧ r.ok n a.tmps ∧ a.defers = marks ds ∧ Sat w0 m H w else Q (.exit j) a w
  | e, a, w => Q e a w
attribute [irreducible] QJoinX
end
end Go.Eng

/-
  A walk's engine: all that is calm at once. No condition.
-/
set_option linter.all false
namespace Go.Eng
open Go Go.RowKit
section
variable {P : Program} {ro : Option Nat} {n : Nat} {w0 : World} {r : Env} {ds : List Nat} {m : Mem} {l : List Oper} {g : Nat} {S U : SHeap} {K : Env → Mem → SHeap → SHeap → Prop} {k V : Nat}
theorem wcal (i : Nat) {o : Oper} {d : Nat} {v : Value}
    (h : WE P ro n w0 l g ds K k (V ||| 1 <<< i) ((d, v) :: r) m S U) (hV : V.testBit i = false := by decide +kernel) (hi : Nat.blt i g = true := by exact rfl) (ho : l[i]? = some o := by exact rfl) (hr : readyB V o = true := by decide +kernel) (hd : o.dst = some d := by exact rfl) (hnd : ∀ c, o.op ≠ .defer c := by intro c h; cases h)
    (hwl : ∀ m' F, m.le m' → WL P ro n w0 l.toArray (Q1 w0 d v ds m' (S ++ F)) [o] (Env.sel (o.looksAt l.toArray) r) ds m' (S ++ F)) : WE P ro n w0 l g ds K (k + 1) V r m S U :=
  WE.calm i hV hi ho hr hd hnd hwl h
end
theorem cm0 {G G' : Prop} (next : G') (h : Bx G' → G := by intro zzn; (try (refine wcal 0 ?_ (hwl := by intro zm zF zle; ((repeat (refine sp ?_; intros)); exact WQ.q1 rfl)))); (try (refine wcal 1 ?_ (hwl := by intro zm zF zle; ((repeat (refine sp ?_; intros)); exact WQ.q1 rfl)))); (try (refine wcal 2 ?_ (hwl := by intro zm zF zle; ((repeat (refine sp ?_; intros)); exact WQ.q1 rfl)))); (try (refine wcal 3 ?_ (hwl := by intro zm zF zle; ((repeat (refine sp ?_; intros)); exact WQ.q1 rfl)))); (try (refine wcal 4 ?_ (hwl := by intro zm zF zle; ((repeat (refine sp ?_; intros)); exact WQ.q1 rfl)))); (try (refine wcal 5 ?_ (hwl := by intro zm zF zle; ((repeat (refine sp ?_; intros)); exact WQ.q1 rfl)))); (try (refine wcal 6 ?_ (hwl := by intro zm zF zle; ((repeat (refine sp ?_; intros)); exact WQ.q1 rfl)))); (try (refine wcal 7 ?_ (hwl := by intro zm zF zle; ((repeat (refine sp ?_; intros)); exact WQ.q1 rfl)))); (try (refine wcal 8 ?_ (hwl := by intro zm zF zle; ((repeat (refine sp ?_; intros)); exact WQ.q1 rfl)))); (try (refine wcal 9 ?_ (hwl := by intro zm zF zle; ((repeat (refine sp ?_; intros)); exact WQ.q1 rfl)))); (try (refine wcal 10 ?_ (hwl := by intro zm zF zle; ((repeat (refine sp ?_; intros)); exact WQ.q1 rfl)))); (try (refine wcal 11 ?_ (hwl := by intro zm zF zle; ((repeat (refine sp ?_; intros)); exact WQ.q1 rfl)))); (try (refine wcal 12 ?_ (hwl := by intro zm zF zle; ((repeat (refine sp ?_; intros)); exact WQ.q1 rfl)))); (try (refine wcal 13 ?_ (hwl := by intro zm zF zle; ((repeat (refine sp ?_; intros)); exact WQ.q1 rfl)))); (try (refine wcal 14 ?_ (hwl := by intro zm zF zle; ((repeat (refine sp ?_; intros)); exact WQ.q1 rfl)))); (try (refine wcal 15 ?_ (hwl := by intro zm zF zle; ((repeat (refine sp ?_; intros)); exact WQ.q1 rfl)))); (try (refine wcal 16 ?_ (hwl := by intro zm zF zle; ((repeat (refine sp ?_; intros)); exact WQ.q1 rfl)))); (try (refine wcal 17 ?_ (hwl := by intro zm zF zle; ((repeat (refine sp ?_; intros)); exact WQ.q1 rfl)))); (try (refine wcal 18 ?_ (hwl := by intro zm zF zle; ((repeat (refine sp ?_; intros)); exact WQ.q1 rfl)))); (try (refine wcal 19 ?_ (hwl := by intro zm zF zle; ((repeat (refine sp ?_; intros)); exact WQ.q1 rfl)))); (try (refine wcal 20 ?_ (hwl := by intro zm zF zle; ((repeat (refine sp ?_; intros)); exact WQ.q1 rfl)))); (try (refine wcal 21 ?_ (hwl := by intro zm zF zle; ((repeat (refine sp ?_; intros)); exact WQ.q1 rfl)))); (try (refine wcal 22 ?_ (hwl := by intro zm zF zle; ((repeat (refine sp ?_; intros)); exact WQ.q1 rfl)))); (try (refine wcal 23 ?_ (hwl := by intro zm zF zle; ((repeat (refine sp ?_; intros)); exact WQ.q1 rfl)))); (try (refine wcal 24 ?_ (hwl := by intro zm zF zle; ((repeat (refine sp ?_; intros)); exact WQ.q1 rfl)))); (try (refine wcal 25 ?_ (hwl := by intro zm zF zle; ((repeat (refine sp ?_; intros)); exact WQ.q1 rfl)))); (try (refine wcal 26 ?_ (hwl := by intro zm zF zle; ((repeat (refine sp ?_; intros)); exact WQ.q1 rfl)))); (try (refine wcal 27 ?_ (hwl := by intro zm zF zle; ((repeat (refine sp ?_; intros)); exact WQ.q1 rfl)))); (try (refine wcal 28 ?_ (hwl := by intro zm zF zle; ((repeat (refine sp ?_; intros)); exact WQ.q1 rfl)))); (try (refine wcal 29 ?_ (hwl := by intro zm zF zle; ((repeat (refine sp ?_; intros)); exact WQ.q1 rfl)))); (try (refine wcal 30 ?_ (hwl := by intro zm zF zle; ((repeat (refine sp ?_; intros)); exact WQ.q1 rfl)))); (try (refine wcal 31 ?_ (hwl := by intro zm zF zle; ((repeat (refine sp ?_; intros)); exact WQ.q1 rfl)))); (try (refine wcal 32 ?_ (hwl := by intro zm zF zle; ((repeat (refine sp ?_; intros)); exact WQ.q1 rfl)))); (try (refine wcal 33 ?_ (hwl := by intro zm zF zle; ((repeat (refine sp ?_; intros)); exact WQ.q1 rfl)))); (try (refine wcal 34 ?_ (hwl := by intro zm zF zle; ((repeat (refine sp ?_; intros)); exact WQ.q1 rfl)))); (try (refine wcal 35 ?_ (hwl := by intro zm zF zle; ((repeat (refine sp ?_; intros)); exact WQ.q1 rfl)))); (try (refine wcal 36 ?_ (hwl := by intro zm zF zle; ((repeat (refine sp ?_; intros)); exact WQ.q1 rfl)))); (try (refine wcal 37 ?_ (hwl := by intro zm zF zle; ((repeat (refine sp ?_; intros)); exact WQ.q1 rfl)))); (try (refine wcal 38 ?_ (hwl := by intro zm zF zle; ((repeat (refine sp ?_; intros)); exact WQ.q1 rfl)))); (try (refine wcal 39 ?_ (hwl := by intro zm zF zle; ((repeat (refine sp ?_; intros)); exact WQ.q1 rfl)))); (try (refine wcal 40 ?_ (hwl := by intro zm zF zle; ((repeat (refine sp ?_; intros)); exact WQ.q1 rfl)))); (try (refine wcal 41 ?_ (hwl := by intro zm zF zle; ((repeat (refine sp ?_; intros)); exact WQ.q1 rfl)))); exact zzn.out) : G := h ⟨next⟩
end Go.Eng

/-
  A walk's engine, nineteenth part: arrays by their address: elements, slices of them, and what is copied there. No condition.
-/
set_option linter.all false
namespace Go.Eng
open Go Go.RowKit
section
variable {P : Program} {ro : Option Nat} {n : Nat} {w0 : World} {Q : Exit → Act → World → Prop} {r : Env} {ds : List Nat} {m : Mem} {H : SHeap}
  {ops : Array Oper} {l : List Oper} {d : Nat} {ty : TypeId} {pos : String} {after : Array Edge} {t t' : TypeId} {x y : Operand}
end
section
variable {P : Program} {ro : Option Nat} {n : Nat} {w0 : World} {Q : Exit → Act → World → Prop} {r : Env} {ds : List Nat} {m : Mem} {H : SHeap} {ops : Array Oper} {l : List Oper}
theorem WL.heap {H' : SHeap} (hh : ∀ w, Sat w0 m H w → Sat w0 m H' w) (h : WL P ro n w0 ops Q l r ds m H') : WL P ro n w0 ops Q l r ds m H := fun tmps w ho hs => h tmps w ho (hh w hs)
end
theorem all_cons {α : Type} {p : α → Prop} {a : α} {l : List α} (h : p a) (k : ∀ x ∈ l, p x) : ∀ x ∈ a :: l, p x := fun x hx => by
  rcases List.mem_cons.1 hx with rfl | hx
  · exact h
  · exact k x hx
theorem Acts.mk {P : Program} {ro : Option Nat} {n : Nat} {w0 : World} {l : List Oper} {g : Nat} {ds : List Nat} {K : Env → Mem → SHeap → SHeap → Prop} {k V : Nat} {r : Env} {m : Mem} {S U : SHeap} {i : Nat} {o : Oper} {d : Nat} (ho : l[i]? = some o) (hd : o.dst = some d) (hnd : ∀ c, o.op ≠ .defer c)
    (h : WL P ro n w0 l.toArray (QE w0 d ds S m fun v m' S' U' => WE P ro n w0 l g ds K k (V ||| 1 <<< i) ((d, v) :: r) m' S' U') [o] (Env.sel (o.looksAt l.toArray) r) ds m (S ++ U)) : Acts P ro n w0 l g ds K k V r m S U i := ⟨o, d, ho, hd, hnd, h⟩
end Go.Eng

/-
  A walk's engine, sixteenth part: how a law's arguments are read, ahead of the call and behind it. No condition.
-/
set_option linter.all false
namespace Go.Eng
open Go Go.RowKit Go.ChangeShapes Go.WideShapes Go.ChangeMaps
section
variable {H : Type} {enc : TypeId × Value → H} {P : Program}
theorem same_below {W W' : World} (hb : Below W.heap.size W W') {p : MemPlace} (hp : p.block < W.heap.size) : W.sameAt W' p := by
  cases p with
  | cell b off =>
    have h := hb.block b hp
    show W'.cell? ⟨b, off, none⟩ = W.cell? ⟨b, off, none⟩
    simp only [World.cell?, h]
  | map b => exact hb.block b hp
theorem trod_again {W W' : World} {sp : Nat → Bool} {t : TypeId} {v : Value} {d : DataW H} {p : List MemPlace} (hl : laidOutB P = true) (ht : t < P.types.size) (hr : P.readableRec t = true)
    (h : DataW.Trod enc P W 0 (fun _ => true) true t v d p) (hlt : ∀ q ∈ p, q.block < W.heap.size) (hb : Below W.heap.size W W') (hs : ∀ q ∈ p, sp q.block = true) : DataW.Trod enc P W' 0 sp true t v d p := by
  obtain ⟨n, hn⟩ := h
  have h1 := DataW.trod_carry (w' := W') n _ _ _ hn (fun q hq => same_below hb (hlt q hq))
  exact ⟨n, DataW.trod_respare (kids_book hl hr) (fun t e hT hu => book_sized hr hT hu) n _ _ _ ⟨ht, book_self t⟩ h1 hs⟩
theorem args_again {W W' : World} {sp : Nat → Bool} (hl : laidOutB P = true) (hb : Below W.heap.size W W') : ∀ {ts : List TypeId} {vs : List Value} {ds : List (DataW H)} {p : List MemPlace},
    (∀ t ∈ ts, t < P.types.size ∧ P.readableRec t = true) → DataW.TrodAll enc P W 0 (fun _ => true) true ts vs ds p → (∀ q ∈ p, sp q.block = true) → DataW.TrodAll enc P W' 0 sp true ts vs ds p
  | [], [], [], _, _, h, _ => h
  | t :: ts, v :: vs, d :: ds, p, hts, h, hs => by
    have hlt := DataW.TrodAll.lt h
    obtain ⟨a, b, h1, h2, e⟩ := h
    subst e
    obtain ⟨g1, g2⟩ := hts t List.mem_cons_self
    exact ⟨a, b, trod_again hl g1 g2 h1 (fun q hq => hlt q (List.mem_append_left _ hq)) hb (fun q hq => hs q (List.mem_append_left _ hq)),
      args_again hl hb (fun t ht => hts t (List.mem_cons_of_mem _ ht)) h2 (fun q hq => hs q (List.mem_append_right _ hq)), rfl⟩
/-- a law that says true, and leaves all that it was handed -/
theorem post_true {f : Func} {s : ChangeSpec} {apart fresh handsOn again : Bool} {W W' : World} {args : Array Value} {ds gs : List (DataW H)} {before : List MemPlace} {tb : TypeId}
    (hW : DataW.Whole enc P f.params.toList s.vars apart W args.toList ds gs before) (hvars : s.vars = []) (hfn : s.fn H (ds ++ gs) = { results := [.lit (.bool true)], args := ds })
    (hres : f.resultTypes = #[tb]) (htb : P.underlying tb = some .bool) (hl : laidOutB P = true) (hts : (f.params.toList.all fun t => decide (t < P.types.size) && P.readableRec t) = true) (hb : Below W.heap.size W W') :
    s.post enc P f apart fresh handsOn again W args (.bool true) W' := by
  have hW2 := hW
  obtain ⟨p, q, hA, hV, e, _, _⟩ := hW
  rw [hvars] at hV
  obtain ⟨rfl, rfl⟩ := trodVars_none hV
  rw [List.append_nil] at e
  subst e
  have hts' : ∀ t ∈ f.params.toList, t < P.types.size ∧ P.readableRec t = true := fun t ht => by simpa using List.all_eq_true.1 hts t ht
  refine post_below (pa := before) (pv := []) hW2 (fun _ _ _ => ?_) (fun sp hs => ?_) (fun _ _ => ?_) (by simp) hb ?_
  · rw [hfn, hres]; exact trodAll_cons_mk (shut_bool htb _) trodAll_mk0
  · rw [hfn]; exact args_again hl hb hts' hA hs
  · rw [hfn, hvars]; rfl
  · intro j t r h1 h2
    rw [hres] at h1 h2
    match j, h1 with
    | 0, h1 =>
      simp at h1; subst h1
      simp [Value.resultList] at h2
      subst h2
      exact okWide_bool_mk htb _
/-- a slice that came in, of elements of one cell -/
theorem RowR.came {w0 W : World} {Hp : SHeap} {sz : Nat} {a : Option Addr} {es : List (List Value)} (h1 : ∀ e ∈ es, e.length = sz)
    (h2 : match a with | .none => es = [] | .some b => ∀ j v, es.flatten[j]? = .some v → W.cell? (b.add j) = .some v) : RowR w0 (memOf W) Hp sz a es := by
  intro w hs
  refine ⟨h1, ?_⟩
  cases a with
  | none => exact h2
  | some b =>
    intro j v hj
    have hc := h2 j v hj
    generalize b.add j = c at hc ⊢
    obtain ⟨b, o, s⟩ := c
    cases hh : W.heap[b]? with
    | none => cases s <;> simp [World.cell?, hh] at hc
    | some ob =>
      have := hs.pers b ob hh
      cases s <;> simpa [World.cell?, this, hh] using hc
end
end Go.Eng

/-
  Plain facts on changes of texts: steps, and what stands between the bytes that are kept. No condition.
-/
namespace Go.Eng
open Go
/-- a step as it came in -/
structure Stp where
  k : Int
  d : List UInt8
  p : List UInt8
  deriving DecidableEq
/-- what is put and what is dropped ahead of a byte that is kept, or at the end -/
structure Gap where
  p : List UInt8
  d : List UInt8
  deriving DecidableEq
/-- may it be: just one of the three -/
def stpOk (s : Stp) : Prop := (0 < s.k ∧ s.d = [] ∧ s.p = []) ∨ (s.k = 0 ∧ s.d ≠ [] ∧ s.p = []) ∨ (s.k = 0 ∧ s.d = [] ∧ s.p ≠ [])
instance (s : Stp) : Decidable (stpOk s) := by unfold stpOk; infer_instance
def maxT : Nat := 65536
/-- how many bytes a change is of, and makes, if it may be -/
def sizesF : List Stp → Int → Int → Option (Int × Int)
  | [], f, t => some (f, t)
  | s :: l, f, t => if stpOk s ∧ s.k ≤ maxT ∧ f + s.k + s.d.length ≤ maxT ∧ t + s.k + s.p.length ≤ maxT then sizesF l (f + s.k + s.d.length) (t + s.k + s.p.length) else none
def sizesOf (l : List Stp) : Option (Int × Int) := sizesF l 0 0
/-- the builder: what is done, and what is put and dropped since -/
structure Bld where
  l : List Stp
  p : List UInt8
  d : List UInt8
def Bld.close (b : Bld) : Bld := ⟨b.l ++ (if b.p = [] then [] else [⟨0, [], b.p⟩]) ++ (if b.d = [] then [] else [⟨0, b.d, []⟩]), [], []⟩
/-- a row is kept behind what is done -/
def addKeep (l : List Stp) (n : Int) : List Stp := match l.getLast? with
  | some s => if 0 < s.k then l.dropLast ++ [⟨s.k + n, s.d, s.p⟩] else l ++ [⟨n, [], []⟩]
  | none => [⟨n, [], []⟩]
def Bld.keep (b : Bld) (n : Int) : Bld := if n = 0 then b else ⟨addKeep b.close.l n, [], []⟩
def Bld.step (b : Bld) (s : Stp) : Bld := if 0 < s.k then b.keep s.k else if s.d ≠ [] then ⟨b.l, b.p, b.d ++ s.d⟩ else ⟨b.l, b.p ++ s.p, b.d⟩
def Bld.start : Bld := ⟨[], [], []⟩
def plainOf (l : List Stp) : List Stp := (l.foldl Bld.step Bld.start).close.l
/-- the gaps of a change -/
structure Gs where
  done : List Gap
  cur : Gap
def Gs.step (g : Gs) (s : Stp) : Gs := if 0 < s.k then ⟨g.done ++ g.cur :: List.replicate (s.k.toNat - 1) ⟨[], []⟩, ⟨[], []⟩⟩ else if s.d ≠ [] then ⟨g.done, ⟨g.cur.p, g.cur.d ++ s.d⟩⟩ else ⟨g.done, ⟨g.cur.p ++ s.p, g.cur.d⟩⟩
def Gs.start : Gs := ⟨[], ⟨[], []⟩⟩
def gapsOf (l : List Stp) : Gs := l.foldl Gs.step Gs.start
/-- the builder over gaps: each is laid, and a byte kept behind it -/
def bldGap (b : Bld) (g : Gap) : Bld := (⟨b.l, b.p ++ g.p, b.d ++ g.d⟩ : Bld).keep 1
def bldGs (g : Gs) : Bld := let b := g.done.foldl bldGap Bld.start; ⟨b.l, b.p ++ g.cur.p, b.d ++ g.cur.d⟩
theorem keep_pd (b : Bld) (n : Int) (hn : n ≠ 0) : (b.keep n).p = [] ∧ (b.keep n).d = [] := by unfold Bld.keep; rw [if_neg hn]; exact ⟨rfl, rfl⟩
theorem addKeep_add (l : List Stp) (m n : Int) (hm : 0 < m) : addKeep (addKeep l m) n = addKeep l (m + n) := by
  unfold addKeep
  cases h : l.getLast? with
  | none => simp [hm]
  | some s =>
    by_cases hs : 0 < s.k
    · simp only [hs, if_true]
      have : 0 < s.k + m := by omega
      simp [this, Int.add_assoc]
    · simp only [hs, if_false]
      simp [hm]
theorem close_keep (b : Bld) (n : Int) (hn : 0 < n) : (b.keep n).close = b.keep n := by
  unfold Bld.close
  obtain ⟨h1, h2⟩ := keep_pd b n (by omega)
  rw [h1, h2]
  cases hb : b.keep n with
  | mk l p d =>
    rw [hb] at h1 h2
    simp only at h1 h2
    subst h1; subst h2
    simp
theorem keep_keep (b : Bld) (m n : Int) (hm : 0 < m) (hn : 0 < n) : (b.keep m).keep n = b.keep (m + n) := by
  have h1 : (b.keep m).keep n = ⟨addKeep (b.keep m).close.l n, [], []⟩ := by
    conv => lhs; unfold Bld.keep
    rw [if_neg (by omega)]; rfl
  rw [h1, close_keep b m hm]
  unfold Bld.keep
  rw [if_neg (by omega), if_neg (by omega)]
  simp only []
  rw [addKeep_add _ _ _ hm]
theorem keeps_rep (b : Bld) : ∀ n : Nat, (List.replicate n (⟨[], []⟩ : Gap)).foldl bldGap (b.keep 1) = b.keep ((n : Int) + 1)
  | 0 => rfl
  | n + 1 => by
    rw [List.replicate_succ', List.foldl_append, keeps_rep b n]
    simp only [List.foldl_cons, List.foldl_nil, bldGap, List.append_nil]
    have h := keep_pd b ((n : Int) + 1) (by omega)
    rw [show (⟨(b.keep ((n : Int) + 1)).l, (b.keep ((n : Int) + 1)).p, (b.keep ((n : Int) + 1)).d⟩ : Bld) = b.keep ((n : Int) + 1) from rfl]
    rw [keep_keep b _ 1 (by omega) (by omega)]
    congr 1
/-- the builder sees a change's gaps alone -/
theorem bld_gaps : ∀ (l : List Stp) (g : Gs), l.foldl Bld.step (bldGs g) = bldGs (l.foldl Gs.step g)
  | [], _ => rfl
  | s :: l, g => by
    rw [List.foldl_cons, List.foldl_cons, ← bld_gaps l]
    congr 1
    unfold Bld.step Gs.step
    by_cases h1 : 0 < s.k
    · simp only [h1, if_true]
      rw [bldGs, bldGs]
      simp only [List.foldl_append, List.foldl_cons, List.append_nil]
      have := keeps_rep (⟨(g.done.foldl bldGap Bld.start).l, (g.done.foldl bldGap Bld.start).p ++ g.cur.p, (g.done.foldl bldGap Bld.start).d ++ g.cur.d⟩ : Bld) (s.k.toNat - 1)
      rw [show bldGap (g.done.foldl bldGap Bld.start) g.cur = (⟨(g.done.foldl bldGap Bld.start).l, (g.done.foldl bldGap Bld.start).p ++ g.cur.p, (g.done.foldl bldGap Bld.start).d ++ g.cur.d⟩ : Bld).keep 1 from rfl, this]
      rw [show ((s.k.toNat - 1 : Nat) : Int) + 1 = s.k by omega]
    · simp only [h1, if_false]
      by_cases h2 : s.d = []
      · simp [h2, bldGs]
      · simp [h2, bldGs]
theorem plain_gaps (l : List Stp) : plainOf l = (bldGs (gapsOf l)).close.l := by
  rw [plainOf, gapsOf, ← bld_gaps]; rfl
end Go.Eng

/-
  Plain facts on changes, said place by place. No condition.
-/
namespace Go.Eng
open Go
/-- a change said place by place: what it puts at each place; of each byte, whether it drops it, and which it is -/
def putsG (g : Gap) : List (List UInt8) := g.p :: List.replicate g.d.length []
def dropsG (g : Gap) : List Bool := List.replicate g.d.length true ++ [false]
def bytesG (g : Gap) : List UInt8 := g.d ++ [0]
def putsOf (g : Gs) : List (List UInt8) := g.done.flatMap putsG ++ putsG g.cur
def dropsOf (g : Gs) : List Bool := g.done.flatMap dropsG ++ List.replicate g.cur.d.length true
def bytesOf (g : Gs) : List UInt8 := g.done.flatMap bytesG ++ g.cur.d
/-- one place of it -/
def posStep (b : Bld) (x : List UInt8 × Bool × UInt8) : Bld := if x.2.1 then ⟨b.l, b.p ++ x.1, b.d ++ [x.2.2]⟩ else (⟨b.l, b.p ++ x.1, b.d⟩ : Bld).keep 1
def posOf (g : Gs) : List (List UInt8 × Bool × UInt8) := (putsOf g).zip ((dropsOf g).zip (bytesOf g))
end Go.Eng

/-
  Plain facts on changes: the lists that say a change place by place, while they are filled. No condition.
-/
namespace Go.Eng
open Go
def pad {α : Type} (l : List α) (n : Nat) (x : α) : List α := l ++ List.replicate (n - l.length) x
def gapAt (g : Gs) : Nat := (g.done.flatMap dropsG).length
def atOf (g : Gs) : Nat := gapAt g + g.cur.d.length
def putsPad (N : Nat) (g : Gs) : List (List UInt8) := pad (g.done.flatMap putsG ++ [g.cur.p]) (N + 1) []
def dropsPad (N : Nat) (g : Gs) : List Bool := pad (dropsOf g) N false
def bytesPad (N : Nat) (g : Gs) : List UInt8 := pad (bytesOf g) N 0
/-- one more byte is dropped -/
def Gs.byte (g : Gs) (b : UInt8) : Gs := ⟨g.done, ⟨g.cur.p, g.cur.d ++ [b]⟩⟩
/-- something more is put -/
def Gs.put (g : Gs) (s : List UInt8) : Gs := ⟨g.done, ⟨g.cur.p ++ s, g.cur.d⟩⟩
/-- a row is kept -/
def Gs.keeps (g : Gs) (n : Nat) : Gs := ⟨g.done ++ g.cur :: List.replicate (n - 1) ⟨[], []⟩, ⟨[], []⟩⟩
end Go.Eng

/-
  Plain facts on changes: byte by byte. No condition.
-/
namespace Go.Eng
open Go
/-- one byte of a change -/
inductive Atm where
  | k
  | d (b : UInt8)
  | p (b : UInt8)
  deriving DecidableEq
def Stp.atoms (s : Stp) : List Atm := List.replicate s.k.toNat .k ++ s.d.map .d ++ s.p.map .p
def atomsOf (l : List Stp) : List Atm := l.flatMap Stp.atoms
def Bld.atom (b : Bld) : Atm → Bld
  | .k => b.keep 1
  | .d c => ⟨b.l, b.p, b.d ++ [c]⟩
  | .p c => ⟨b.l, b.p ++ [c], b.d⟩
def Bld.run (b : Bld) (l : List Atm) : Bld := l.foldl Bld.atom b
theorem run_append (b : Bld) (x y : List Atm) : b.run (x ++ y) = (b.run x).run y := List.foldl_append ..
theorem run_d (b : Bld) : ∀ ds : List UInt8, b.run (ds.map .d) = ⟨b.l, b.p, b.d ++ ds⟩
  | [] => by cases b; simp [Bld.run]
  | x :: ds => by
    have h := run_d (b.atom (.d x)) ds
    simp only [Bld.run, List.map_cons, List.foldl_cons] at h ⊢
    rw [h]; simp [Bld.atom]
theorem run_p (b : Bld) : ∀ ds : List UInt8, b.run (ds.map .p) = ⟨b.l, b.p ++ ds, b.d⟩
  | [] => by cases b; simp [Bld.run]
  | x :: ds => by
    have h := run_p (b.atom (.p x)) ds
    simp only [Bld.run, List.map_cons, List.foldl_cons] at h ⊢
    rw [h]; simp [Bld.atom]
theorem run_k (b : Bld) : ∀ n : Nat, b.run (List.replicate n .k) = b.keep (n : Int)
  | 0 => rfl
  | n + 1 => by
    rw [List.replicate_succ', run_append, run_k b n]
    show (b.keep (n : Int)).keep 1 = _
    by_cases hn : n = 0
    · subst hn; rfl
    · rw [keep_keep b _ 1 (by omega) (by omega)]; rfl
/-- what a builder has laid, byte by byte -/
def gapA (g : Gap) : List Atm := g.p.map .p ++ g.d.map .d
def Bld.atoms (b : Bld) : List Atm := atomsOf b.l ++ gapA ⟨b.p, b.d⟩
def nfOf (g : Gs) : List Atm := g.done.flatMap (fun x => gapA x ++ [.k]) ++ gapA g.cur
theorem atoms_append (x y : List Stp) : atomsOf (x ++ y) = atomsOf x ++ atomsOf y := List.flatMap_append ..
theorem atoms_one (s : Stp) : atomsOf [s] = s.atoms := by simp [atomsOf]
theorem atoms_cons (s : Stp) (l : List Stp) : atomsOf (s :: l) = s.atoms ++ atomsOf l := rfl
theorem close_atoms (b : Bld) : atomsOf b.close.l = b.atoms := by
  unfold Bld.close Bld.atoms gapA
  simp only [atoms_append]
  rw [List.append_assoc]
  congr 1
  congr 1
  · by_cases h : b.p = [] <;> simp [h, atomsOf, Stp.atoms]
  · by_cases h : b.d = [] <;> simp [h, atomsOf, Stp.atoms]
theorem close_ok (b : Bld) (h : ∀ s ∈ b.l, stpOk s) : ∀ s ∈ b.close.l, stpOk s := by
  intro s hs
  unfold Bld.close at hs
  simp only [List.mem_append] at hs
  rcases hs with (hs | hs) | hs
  · exact h s hs
  · by_cases hp : b.p = []
    · simp [hp] at hs
    · simp [hp] at hs; subst hs; exact .inr (.inr ⟨rfl, rfl, hp⟩)
  · by_cases hp : b.d = []
    · simp [hp] at hs
    · simp [hp] at hs; subst hs; exact .inr (.inl ⟨rfl, hp, rfl⟩)
theorem addKeep_atoms (l : List Stp) (n : Int) (hn : 0 < n) (h : ∀ s ∈ l, stpOk s) : atomsOf (addKeep l n) = atomsOf l ++ List.replicate n.toNat .k ∧ ∀ s ∈ addKeep l n, stpOk s := by
  unfold addKeep
  cases hl : l.getLast? with
  | none =>
    have : l = [] := by simpa using hl
    subst this
    refine ⟨by simp [atomsOf, Stp.atoms], fun s hs => ?_⟩
    simp at hs; subst hs; exact .inl ⟨hn, rfl, rfl⟩
  | some s =>
    obtain ⟨ys, e⟩ := List.getLast?_eq_some_iff.1 hl
    have e2 : l.dropLast = ys := by rw [e]; simp
    rw [e2]
    have hs := h s (by rw [e]; simp)
    by_cases h0 : 0 < s.k
    · simp only [h0, if_true]
      rcases hs with ⟨_, h2, h3⟩ | ⟨h1, _, _⟩ | ⟨h1, _, _⟩
      · refine ⟨?_, fun x hx => ?_⟩
        · conv => rhs; rw [e]
          rw [atoms_append, atoms_append, atoms_one, atoms_one, List.append_assoc]
          congr 1
          simp only [Stp.atoms, h2, h3, List.map_nil, List.append_nil]
          rw [List.replicate_append_replicate]
          congr 1; omega
        · simp only [List.mem_append, List.mem_singleton] at hx
          rcases hx with hx | rfl
          · exact h x (by rw [e]; simp [hx])
          · exact .inl ⟨by simp only; omega, h2, h3⟩
      · omega
      · omega
    · simp only [h0, if_false]
      refine ⟨by rw [atoms_append, atoms_one]; simp [Stp.atoms], fun x hx => ?_⟩
      simp only [List.mem_append, List.mem_singleton] at hx
      rcases hx with hx | rfl
      · exact h x hx
      · exact .inl ⟨hn, rfl, rfl⟩
theorem keep_atoms (b : Bld) (n : Int) (hn : 0 < n) (h : ∀ s ∈ b.l, stpOk s) : (b.keep n).atoms = b.atoms ++ List.replicate n.toNat .k ∧ ∀ s ∈ (b.keep n).l, stpOk s := by
  unfold Bld.keep
  rw [if_neg (by omega)]
  obtain ⟨h1, h2⟩ := addKeep_atoms b.close.l n hn (close_ok b h)
  refine ⟨?_, h2⟩
  unfold Bld.atoms
  simp only [gapA, List.map_nil, List.append_nil]
  rw [h1, close_atoms]; rfl
theorem bldGap_atoms (b : Bld) (g : Gap) (h : ∀ s ∈ b.l, stpOk s) (hp : b.p = []) (hd : b.d = []) : (bldGap b g).atoms = b.atoms ++ (gapA g ++ [.k]) ∧ (∀ s ∈ (bldGap b g).l, stpOk s) ∧ (bldGap b g).p = [] ∧ (bldGap b g).d = [] := by
  obtain ⟨h1, h2⟩ := keep_atoms ⟨b.l, b.p ++ g.p, b.d ++ g.d⟩ 1 (by omega) h
  have h3 := keep_pd ⟨b.l, b.p ++ g.p, b.d ++ g.d⟩ 1 (by omega)
  refine ⟨?_, h2, h3.1, h3.2⟩
  rw [bldGap, h1]
  unfold Bld.atoms
  simp [hp, hd, gapA]
theorem bldGs_done : ∀ (l : List Gap) (b : Bld), (∀ s ∈ b.l, stpOk s) → b.p = [] → b.d = [] → (l.foldl bldGap b).atoms = b.atoms ++ l.flatMap (fun x => gapA x ++ [.k]) ∧ (∀ s ∈ (l.foldl bldGap b).l, stpOk s) ∧ (l.foldl bldGap b).p = [] ∧ (l.foldl bldGap b).d = []
  | [], b, h, hp, hd => ⟨by simp, h, hp, hd⟩
  | g :: l, b, h, hp, hd => by
    obtain ⟨h1, h2, h3, h4⟩ := bldGap_atoms b g h hp hd
    obtain ⟨k1, k2, k3, k4⟩ := bldGs_done l (bldGap b g) h2 h3 h4
    refine ⟨?_, k2, k3, k4⟩
    rw [List.foldl_cons, k1, h1, List.flatMap_cons, List.append_assoc]
theorem bldGs_atoms (g : Gs) : (bldGs g).atoms = nfOf g ∧ ∀ s ∈ (bldGs g).l, stpOk s := by
  obtain ⟨h1, h2, h3, h4⟩ := bldGs_done g.done Bld.start (by simp [Bld.start]) rfl rfl
  refine ⟨?_, h2⟩
  unfold bldGs nfOf
  simp only []
  rw [show (Bld.atoms ⟨(g.done.foldl bldGap Bld.start).l, (g.done.foldl bldGap Bld.start).p ++ g.cur.p, (g.done.foldl bldGap Bld.start).d ++ g.cur.d⟩) = (g.done.foldl bldGap Bld.start).atoms ++ gapA g.cur by simp [Bld.atoms, h3, h4, gapA], h1]
  simp [Bld.atoms, Bld.start, atomsOf, gapA]
theorem plain_atoms (l : List Stp) : atomsOf (plainOf l) = nfOf (gapsOf l) := by rw [plain_gaps, close_atoms, (bldGs_atoms _).1]
/-- the said change, as a list of places -/
abbrev Pos := List UInt8 × Bool × UInt8
def Pos.atoms (x : Pos) : List Atm := x.1.map .p ++ [if x.2.1 then .d x.2.2 else .k]
def lastOf (g : Gs) : List UInt8 := (putsOf g).getD (dropsOf g).length []
def sdA (ps : List Pos) (last : List UInt8) : List Atm := ps.flatMap Pos.atoms ++ last.map .p
end Go.Eng

/-
  Plain facts on changes: where a place goes. No condition.
-/
namespace Go.Eng
open Go
/-- one step of the program's way -/
def moveStep (at_ : Int) (b : Bool) (st : Int × Int) (s : Stp) : Int × Int :=
  if s.p ≠ [] then (if st.2 < at_ ∨ (st.2 = at_ ∧ b = true) then st.1 + s.p.length else st.1, st.2)
  else if s.d ≠ [] then (st.1, st.2 + s.d.length)
  else (st.1 + max 0 (min s.k (at_ - st.2)), st.2 + s.k)
def moveAtm (at_ : Int) (b : Bool) (st : Int × Int) : Atm → Int × Int
  | .p _ => (if st.2 < at_ ∨ (st.2 = at_ ∧ b = true) then st.1 + 1 else st.1, st.2)
  | .d _ => (st.1, st.2 + 1)
  | .k => (if st.2 < at_ then st.1 + 1 else st.1, st.2 + 1)
/-- the reference's way -/
def mvF : List Pos → List UInt8 → Nat → Bool → Nat
  | [], last, _, b => if b then last.length else 0
  | x :: _, _, 0, b => if b then x.1.length else 0
  | x :: ps, last, at_ + 1, b => x.1.length + (if x.2.1 then 0 else 1) + mvF ps last at_ b
/-- the program's answer is the reference's -/
def moveOf (l : List Stp) (at_ : Int) (b : Bool) : Int := (l.foldl (moveStep at_ b) (0, 0)).1
def movedF (l : List Stp) (at_ : Nat) (b : Bool) : Nat := mvF (posOf (gapsOf l)) (lastOf (gapsOf l)) at_ b
end Go.Eng

/-
  Plain facts on changes: one behind the other. No condition.
-/
namespace Go.Eng
open Go
/-- two changes byte by byte, one behind the other; none: they are apart -/
def compA : List Atm → List Atm → Option (List Atm)
  | xs, .p b :: ys => (compA xs ys).map (.p b :: ·)
  | .d b :: xs, [] => (compA xs []).map (.d b :: ·)
  | .d b :: xs, .k :: ys => (compA xs (.k :: ys)).map (.d b :: ·)
  | .d b :: xs, .d c :: ys => (compA xs (.d c :: ys)).map (.d b :: ·)
  | [], [] => some []
  | [], .k :: _ => some []
  | [], .d _ :: _ => some []
  | .k :: _, [] => some []
  | .p _ :: _, [] => some []
  | .k :: xs, .k :: ys => (compA xs ys).map (.k :: ·)
  | .k :: xs, .d c :: ys => (compA xs ys).map (.d c :: ·)
  | .p b :: xs, .k :: ys => (compA xs ys).map (.p b :: ·)
  | .p b :: xs, .d c :: ys => if b = c then compA xs ys else none
termination_by xs ys => xs.length + ys.length
def notPut : List Atm → Bool
  | .p _ :: _ => false
  | _ => true
/-- how many bytes a change is of, and makes -/
def fromA : List Atm → Nat
  | [] => 0
  | .k :: l => fromA l + 1
  | .d _ :: l => fromA l + 1
  | .p _ :: l => fromA l
def toA : List Atm → Nat
  | [] => 0
  | .k :: l => toA l + 1
  | .d _ :: l => toA l
  | .p _ :: l => toA l + 1
theorem fromA_append : ∀ x y : List Atm, fromA (x ++ y) = fromA x + fromA y
  | [], y => by simp [fromA]
  | .k :: x, y => by simp only [List.cons_append, fromA, fromA_append x y]; omega
  | .d _ :: x, y => by simp only [List.cons_append, fromA, fromA_append x y]; omega
  | .p _ :: x, y => by simp only [List.cons_append, fromA, fromA_append x y]
theorem toA_append : ∀ x y : List Atm, toA (x ++ y) = toA x + toA y
  | [], y => by simp [toA]
  | .k :: x, y => by simp only [List.cons_append, toA, toA_append x y]; omega
  | .d _ :: x, y => by simp only [List.cons_append, toA, toA_append x y]
  | .p _ :: x, y => by simp only [List.cons_append, toA, toA_append x y]; omega
theorem fromA_d (l : List UInt8) : fromA (l.map .d) = l.length := by induction l with
  | nil => rfl
  | cons a l ih => simp [fromA, ih]
theorem fromA_p (l : List UInt8) : fromA (l.map .p) = 0 := by induction l with
  | nil => rfl
  | cons a l ih => simp [fromA, ih]
theorem toA_d (l : List UInt8) : toA (l.map .d) = 0 := by induction l with
  | nil => rfl
  | cons a l ih => simp [toA, ih]
theorem toA_p (l : List UInt8) : toA (l.map .p) = l.length := by induction l with
  | nil => rfl
  | cons a l ih => simp [toA, ih]
theorem fromA_k (n : Nat) : fromA (List.replicate n .k) = n := by induction n with
  | zero => rfl
  | succ n ih => simp [List.replicate_succ, fromA, ih]
theorem toA_k (n : Nat) : toA (List.replicate n .k) = n := by induction n with
  | zero => rfl
  | succ n ih => simp [List.replicate_succ, toA, ih]
theorem from_step (s : Stp) : fromA s.atoms = s.k.toNat + s.d.length := by simp [Stp.atoms, fromA_append, fromA_k, fromA_d, fromA_p]
theorem to_step (s : Stp) : toA s.atoms = s.k.toNat + s.p.length := by simp [Stp.atoms, toA_append, toA_k, toA_d, toA_p]
/-- sizes of a change that may be -/
theorem sizesF_some : ∀ (l : List Stp) (f t a b : Int), 0 ≤ f → 0 ≤ t → sizesF l f t = some (a, b) → (∀ s ∈ l, stpOk s ∧ s.k ≤ maxT) ∧ a = f + (fromA (atomsOf l) : Int) ∧ b = t + (toA (atomsOf l) : Int) ∧ (l ≠ [] → a ≤ maxT ∧ b ≤ maxT)
  | [], f, t, a, b, _, _, h => by
    simp only [sizesF, Option.some.injEq, Prod.mk.injEq] at h
    obtain ⟨rfl, rfl⟩ := h
    simp [atomsOf, fromA, toA]
  | s :: l, f, t, a, b, hf, ht, h => by
    rw [sizesF] at h
    split at h
    · rename_i hc
      obtain ⟨h1, h2, h3, h4⟩ := hc
      have hk : 0 ≤ s.k := by rcases h1 with ⟨h, _, _⟩ | ⟨h, _, _⟩ | ⟨h, _, _⟩ <;> omega
      obtain ⟨g1, g2, g3, g4⟩ := sizesF_some l _ _ a b (by omega) (by omega) h
      refine ⟨?_, ?_, ?_, fun _ => ?_⟩
      · intro x hx
        rcases List.mem_cons.1 hx with rfl | hx
        · exact ⟨h1, h2⟩
        · exact g1 x hx
      · rw [g2, atoms_cons, fromA_append, from_step]; omega
      · rw [g3, atoms_cons, toA_append, to_step]; omega
      · by_cases hl : l = []
        · subst hl
          simp only [sizesF, Option.some.injEq, Prod.mk.injEq] at h
          omega
        · exact g4 hl
    · cases h
theorem sizesOf_some {l : List Stp} {a b : Int} (h : sizesOf l = some (a, b)) : (∀ s ∈ l, stpOk s ∧ s.k ≤ maxT) ∧ a = (fromA (atomsOf l) : Int) ∧ b = (toA (atomsOf l) : Int) ∧ a ≤ maxT ∧ b ≤ maxT := by
  obtain ⟨h1, h2, h3, h4⟩ := sizesF_some l 0 0 a b (by omega) (by omega) h
  refine ⟨h1, by omega, by omega, ?_⟩
  by_cases hl : l = []
  · subst hl
    simp only [sizesOf, sizesF, Option.some.injEq, Prod.mk.injEq] at h
    unfold maxT; omega
  · exact h4 hl
/-- the gaps of a change, byte by byte -/
def Gs.atom (g : Gs) : Atm → Gs
  | .k => ⟨g.done ++ [g.cur], ⟨[], []⟩⟩
  | .d c => ⟨g.done, ⟨g.cur.p, g.cur.d ++ [c]⟩⟩
  | .p c => ⟨g.done, ⟨g.cur.p ++ [c], g.cur.d⟩⟩
def Gs.run (g : Gs) (l : List Atm) : Gs := l.foldl Gs.atom g
theorem grun_append (b : Gs) (x y : List Atm) : b.run (x ++ y) = (b.run x).run y := List.foldl_append ..
theorem grun_d (b : Gs) : ∀ ds : List UInt8, b.run (ds.map .d) = ⟨b.done, ⟨b.cur.p, b.cur.d ++ ds⟩⟩
  | [] => by cases b; simp [Gs.run]
  | x :: ds => by
    have h := grun_d (b.atom (.d x)) ds
    simp only [Gs.run, List.map_cons, List.foldl_cons] at h ⊢
    rw [h]; simp [Gs.atom]
theorem grun_p (b : Gs) : ∀ ds : List UInt8, b.run (ds.map .p) = ⟨b.done, ⟨b.cur.p ++ ds, b.cur.d⟩⟩
  | [] => by cases b; simp [Gs.run]
  | x :: ds => by
    have h := grun_p (b.atom (.p x)) ds
    simp only [Gs.run, List.map_cons, List.foldl_cons] at h ⊢
    rw [h]; simp [Gs.atom]
theorem grun_k (b : Gs) : ∀ n : Nat, b.run (List.replicate (n + 1) .k) = b.keeps (n + 1)
  | 0 => by simp [Gs.run, Gs.atom, Gs.keeps, List.replicate]
  | n + 1 => by
    rw [List.replicate_succ', grun_append, grun_k b n]
    simp only [Gs.run, List.foldl_cons, List.foldl_nil, Gs.atom, Gs.keeps]
    simp [List.replicate_succ']
theorem grun_step (g : Gs) (s : Stp) (h : stpOk s) : g.run s.atoms = g.step s := by
  obtain ⟨k, d, p⟩ := s
  rcases h with ⟨h1, h2, h3⟩ | ⟨h1, h2, h3⟩ | ⟨h1, h2, h3⟩
  · simp only at h1 h2 h3
    subst h2; subst h3
    simp only [Stp.atoms, List.map_nil, List.append_nil, Gs.step, h1, if_true]
    obtain ⟨n, hn⟩ : ∃ n, k.toNat = n + 1 := ⟨k.toNat - 1, by omega⟩
    rw [hn, grun_k]; simp [Gs.keeps]
  · simp only at h1 h2 h3
    subst h1; subst h3
    simp [Stp.atoms, Gs.step, h2, grun_d]
  · simp only at h1 h2 h3
    subst h1; subst h2
    simp [Stp.atoms, Gs.step, grun_p]
theorem gaps_run : ∀ (l : List Stp) (g : Gs), (∀ s ∈ l, stpOk s) → g.run (atomsOf l) = l.foldl Gs.step g
  | [], g, _ => rfl
  | s :: l, g, h => by
    rw [atoms_cons, grun_append, grun_step g s (h s List.mem_cons_self), gaps_run l _ (fun x hx => h x (List.mem_cons_of_mem _ hx)), List.foldl_cons]
theorem gapsOf_run (l : List Stp) (h : ∀ s ∈ l, stpOk s) : gapsOf l = Gs.start.run (atomsOf l) := (gaps_run l _ h).symm
/-- what a change is of, and makes, by its gaps -/
theorem nf_from (g : Gs) (a : Atm) : fromA (nfOf (g.atom a)) = fromA (nfOf g) + fromA [a] ∧ toA (nfOf (g.atom a)) = toA (nfOf g) + toA [a] := by
  cases a <;> simp only [Gs.atom, nfOf, gapA, List.flatMap_append, List.flatMap_cons, List.flatMap_nil, fromA_append, toA_append, List.map_append, fromA_p, fromA_d, toA_p, toA_d, fromA, toA, List.map_cons, List.map_nil, List.append_nil] <;> omega
theorem nf_run : ∀ (l : List Atm) (g : Gs), fromA (nfOf (g.run l)) = fromA (nfOf g) + fromA l ∧ toA (nfOf (g.run l)) = toA (nfOf g) + toA l
  | [], g => ⟨rfl, rfl⟩
  | a :: l, g => by
    obtain ⟨h1, h2⟩ := nf_run l (g.atom a)
    obtain ⟨h3, h4⟩ := nf_from g a
    have e1 : fromA (a :: l) = fromA [a] + fromA l := fromA_append [a] l
    have e2 : toA (a :: l) = toA [a] + toA l := toA_append [a] l
    rw [show g.run (a :: l) = (g.atom a).run l from rfl, h1, h2, h3, h4, e1, e2]
    omega
theorem nf_sizes (l : List Stp) (h : ∀ s ∈ l, stpOk s) : fromA (nfOf (gapsOf l)) = fromA (atomsOf l) ∧ toA (nfOf (gapsOf l)) = toA (atomsOf l) := by
  obtain ⟨h1, h2⟩ := nf_run (atomsOf l) Gs.start
  rw [gapsOf_run l h, h1, h2]
  simp [Gs.start, nfOf, gapA, fromA, toA]
end Go.Eng

/-
  The walks of package edit, first part: the law's own copy of a change, the sizes of a change. No condition.
-/
namespace Go.Eng
def Stp.cs (s : Stp) : List Value := [.int .i64 s.k, str s.d, str s.p]
/-- how much of a change the law goes through -/
def refN : List Stp → Nat → Int → Bool
  | [], _, _ => true
  | s :: l, i, n =>
    let n' := n + ((s.d.length : Int) + (s.p.length : Int)) + (if 0 < s.k ∧ s.k ≤ 65536 then s.k / 8 else 0)
    if 5000 < n' ∨ 5000 < i then false else refN l (i + 1) n'
def smallOf (l : List Stp) : Bool := refN l 0 0
/-- of such size that no number grows too large -/
structure Fit (l : List Stp) : Prop where
  len : l.length ≤ 1048576
  k : ∀ s ∈ l, -9223372036854775808 ≤ s.k ∧ s.k ≤ 9223372036854775807
  d : ∀ s ∈ l, s.d.length ≤ 1048576
  p : ∀ s ∈ l, s.p.length ≤ 1048576
theorem sizesF_good {x : Stp} {l : List Stp} {f t : Int} (h1 : stpOk x) (h2 : x.k ≤ 65536) (h3 : f + x.k + x.d.length ≤ 65536) (h4 : t + x.k + x.p.length ≤ 65536) : sizesF (x :: l) f t = sizesF l (f + x.k + x.d.length) (t + x.k + x.p.length) := if_pos ⟨h1, h2, h3, h4⟩
theorem sizesF_bad {x : Stp} {l : List Stp} {f t : Int} (h : ¬ (stpOk x ∧ x.k ≤ 65536 ∧ f + x.k + x.d.length ≤ 65536 ∧ t + x.k + x.p.length ≤ 65536)) : sizesF (x :: l) f t = none := if_neg h
def szR : Option (Int × Int) → Value
  | some (a, b) => .tuple #[.int .i64 a, .int .i64 b, .bool true]
  | none => .tuple #[.int .i64 0, .int .i64 0, .bool false]
def szP : Option (Int × Int) → Value
  | some (a, b) => .tuple #[.int .i64 a, .int .i64 b, .int .i64 0]
  | none => .tuple #[.int .i64 0, .int .i64 0, .int .i64 2]
end Go.Eng
namespace Go.Proofs.YtelgegefmjlimaaDoor
open Go Go.Eng
set_option maxRecDepth 100000
set_option maxHeartbeats 4000000
set_option linter.all false
attribute [local irreducible] WL WC WQ QFun QLoop Does Q1 QRound QAssign Go.Addr.add
end Go.Proofs.YtelgegefmjlimaaDoor

/-
  The walks of package edit, fourth part: the builder's close. No condition.
-/
namespace Go.Proofs.YtelgegefmjlimaaDoor
open Go Go.Eng
set_option maxRecDepth 100000
set_option maxHeartbeats 4000000
set_option linter.all false
attribute [local irreducible] WL WC WQ QFun QLoop Does Q1 QRound QAssign Go.Addr.add
theorem close_any {b : Nat} {c : Option Addr} {cp : Nat} (B : Bld) (hB : B.l.length ≤ 1000000000000) (w0 : World) (m : Mem) (H : SHeap) :
    Does Tryd.prog 67 #[.pointer (some ⟨b, 0, none⟩)] w0 m (.blk b (.cells [.slice c B.l.length cp, str B.p, str B.d].toArray 94 (0, 0)) :: .row c cp 39 3 (B.l.map Stp.cs) :: H)
      (fun v m' H' => v = .tuple #[] ∧ m' = m ∧ ∃ c' cp', H' = .blk b (.cells [.slice c' B.close.l.length cp', str [], str []].toArray 94 (0, 0)) :: .row c' cp' 39 3 (B.close.l.map Stp.cs) :: H) := by
  refine Does.of_body (args := [.pointer (some ⟨b, 0, none⟩)]) Tryd.func67 rfl Tryd.ntmps67 rfl ?_
  have hml : (B.l.map Stp.cs).length = B.l.length := by simp
  by_cases hp : B.p = [] <;> by_cases hd : B.d = []
  · (try (refine st ?_; intros))
    have e : B.close.l = B.l := by simp [Bld.close, hp, hd]
    rw [hp, hd]
    exact q_finNorm0 (H0 := .blk b (.cells [.slice c B.l.length cp, str [], str []].toArray 94 (0, 0)) :: .row c cp 39 3 (B.l.map Stp.cs) :: H) ⟨rfl, rfl, c, cp, by rw [e]⟩ (hd := zpk)
  · (try (refine st ?_; intros))
    refine WC.drawE 14 ([.blk b (.cells [.slice c B.l.length cp, str B.p, str B.d].toArray 94 (0, 0))]) (.row c cp 39 3 (B.l.map Stp.cs) :: H) rfl (by decide +kernel) zpk ?_
    (refine cm0 ?_)
    refine WE.act1 10 (by decide +kernel) rfl rfl (fun c h => by cases h) ?_
    (refine st ?_; intros; rename_i q0)
    refine WQ.acted (B := []) (U := .blk q0 (.cells [.int .i64 0, str B.d, str []].toArray 39 (0, 0)) :: .row c cp 39 3 (B.l.map Stp.cs) :: H) rfl (Mem.le.refl _) zpk ?_
    refine WE.act1 11 (by decide +kernel) rfl rfl (fun c h => by cases h) ?_
    (refine st ?_; intros; rename_i c2 cp2)
    refine WQ.acted (B := []) (U := .row c2 cp2 39 3 (B.l.map Stp.cs ++ [[.int .i64 0, str B.d, str []]]) :: H) rfl (Mem.le.refl _) zpk ?_
    (refine cm0 ?_)
    refine WE.done (by decide +kernel) ?_
    (try (refine st ?_; intros))
    rw [hml, hp]
    have e : B.close.l = B.l ++ [⟨0, B.d, []⟩] := by simp [Bld.close, hp, hd]
    exact q_finNorm0 (H0 := .blk b (.cells [.slice c2 (B.l.length + 1) cp2, str [], str []].toArray 94 (0, 0)) :: .row c2 cp2 39 3 (B.l.map Stp.cs ++ [[.int .i64 0, str B.d, str []]]) :: H) ⟨rfl, rfl, c2, cp2, by rw [e]; simp [Stp.cs]⟩ (hd := zpk)
  · (try (refine st ?_; intros))
    refine WC.drawE 14 ([.blk b (.cells [.slice c B.l.length cp, str B.p, str B.d].toArray 94 (0, 0))]) (.row c cp 39 3 (B.l.map Stp.cs) :: H) rfl (by decide +kernel) zpk ?_
    (refine cm0 ?_)
    refine WE.act1 10 (by decide +kernel) rfl rfl (fun c h => by cases h) ?_
    (refine st ?_; intros; rename_i q0)
    refine WQ.acted (B := []) (U := .blk q0 (.cells [.int .i64 0, str [], str B.p].toArray 39 (0, 0)) :: .row c cp 39 3 (B.l.map Stp.cs) :: H) rfl (Mem.le.refl _) zpk ?_
    refine WE.act1 11 (by decide +kernel) rfl rfl (fun c h => by cases h) ?_
    (refine st ?_; intros; rename_i c2 cp2)
    refine WQ.acted (B := []) (U := .row c2 cp2 39 3 (B.l.map Stp.cs ++ [[.int .i64 0, str [], str B.p]]) :: H) rfl (Mem.le.refl _) zpk ?_
    (refine cm0 ?_)
    refine WE.done (by decide +kernel) ?_
    (try (refine st ?_; intros))
    rw [hml, hd]
    have e : B.close.l = B.l ++ [⟨0, [], B.p⟩] := by simp [Bld.close, hp, hd]
    exact q_finNorm0 (H0 := .blk b (.cells [.slice c2 (B.l.length + 1) cp2, str [], str []].toArray 94 (0, 0)) :: .row c2 cp2 39 3 (B.l.map Stp.cs ++ [[.int .i64 0, str [], str B.p]]) :: H) ⟨rfl, rfl, c2, cp2, by rw [e]; simp [Stp.cs]⟩ (hd := zpk)
  · have hml1 : (B.l.map Stp.cs ++ [[.int .i64 0, str [], str B.p]]).length = B.l.length + 1 := by simp
    (try (refine st ?_; intros))
    refine WC.drawE 14 ([.blk b (.cells [.slice c B.l.length cp, str B.p, str B.d].toArray 94 (0, 0))]) (.row c cp 39 3 (B.l.map Stp.cs) :: H) rfl (by decide +kernel) zpk ?_
    (refine cm0 ?_)
    refine WE.act1 10 (by decide +kernel) rfl rfl (fun c h => by cases h) ?_
    (refine st ?_; intros; rename_i q0)
    refine WQ.acted (B := []) (U := .blk q0 (.cells [.int .i64 0, str [], str B.p].toArray 39 (0, 0)) :: .row c cp 39 3 (B.l.map Stp.cs) :: H) rfl (Mem.le.refl _) zpk ?_
    refine WE.act1 11 (by decide +kernel) rfl rfl (fun c h => by cases h) ?_
    (refine st ?_; intros; rename_i c2 cp2)
    refine WQ.acted (B := []) (U := .row c2 cp2 39 3 (B.l.map Stp.cs ++ [[.int .i64 0, str [], str B.p]]) :: H) rfl (Mem.le.refl _) zpk ?_
    (refine cm0 ?_)
    refine WE.done (by decide +kernel) ?_
    (try (refine st ?_; intros))
    rw [hml]
    refine WC.drawE 14 ([.blk b (.cells [.slice c2 (B.l.length + 1) cp2, str B.p, str B.d].toArray 94 (0, 0))]) (.row c2 cp2 39 3 (B.l.map Stp.cs ++ [[.int .i64 0, str [], str B.p]]) :: H) rfl (by decide +kernel) zpk ?_
    (refine cm0 ?_)
    refine WE.act1 10 (by decide +kernel) rfl rfl (fun c h => by cases h) ?_
    (refine st ?_; intros; rename_i q0)
    refine WQ.acted (B := []) (U := .blk q0 (.cells [.int .i64 0, str B.d, str []].toArray 39 (0, 0)) :: .row c2 cp2 39 3 (B.l.map Stp.cs ++ [[.int .i64 0, str [], str B.p]]) :: H) rfl (Mem.le.refl _) zpk ?_
    refine WE.act1 11 (by decide +kernel) rfl rfl (fun c h => by cases h) ?_
    (refine st ?_; intros; rename_i c3 cp3)
    refine WQ.acted (B := []) (U := .row c3 cp3 39 3 (B.l.map Stp.cs ++ [[.int .i64 0, str [], str B.p]] ++ [[.int .i64 0, str B.d, str []]]) :: H) rfl (Mem.le.refl _) zpk ?_
    (refine cm0 ?_)
    refine WE.done (by decide +kernel) ?_
    (try (refine st ?_; intros))
    rw [hml1]
    have e : B.close.l = B.l ++ [⟨0, [], B.p⟩] ++ [⟨0, B.d, []⟩] := by simp [Bld.close, hp, hd]
    exact q_finNorm0 (H0 := .blk b (.cells [.slice c3 (B.l.length + 1 + 1) cp3, str [], str []].toArray 94 (0, 0)) :: .row c3 cp3 39 3 (B.l.map Stp.cs ++ [[.int .i64 0, str [], str B.p]] ++ [[.int .i64 0, str B.d, str []]]) :: H) ⟨rfl, rfl, c3, cp3, by rw [e]; simp [Stp.cs]⟩ (hd := zpk)
end Go.Proofs.YtelgegefmjlimaaDoor

/-
  Plain facts on changes: how large a builder grows. No condition.
-/
namespace Go.Eng
open Go
/-- no number of it is above N -/
structure BFit (N : Nat) (B : Bld) : Prop where
  len : B.l.length ≤ N
  k : ∀ s ∈ B.l, 0 ≤ s.k ∧ s.k ≤ N
  p : B.p.length ≤ N
  d : B.d.length ≤ N
theorem BFit.mono {N M : Nat} {B : Bld} (h : BFit N B) (hm : N ≤ M) : BFit M B :=
  ⟨by have := h.len; omega, fun s hs => by have := h.k s hs; omega, by have := h.p; omega, by have := h.d; omega⟩
theorem BFit.start : BFit 0 Bld.start := ⟨Nat.le_refl _, fun s hs => by simp [Bld.start] at hs, Nat.le_refl _, Nat.le_refl _⟩
theorem BFit.close {N : Nat} {B : Bld} (h : BFit N B) : BFit (N + 2) B.close := by
  refine ⟨?_, fun s hs => ?_, by simp [Bld.close], by simp [Bld.close]⟩
  · have := h.len
    unfold Bld.close
    split <;> split <;> simp <;> omega
  · unfold Bld.close at hs
    simp only [List.mem_append] at hs
    rcases hs with (hs | hs) | hs
    · have := h.k s hs; omega
    · split at hs <;> simp at hs; subst hs; simp; omega
    · split at hs <;> simp at hs; subst hs; simp; omega
theorem addKeep_k {N : Nat} {l : List Stp} {n : Nat} (h : ∀ s ∈ l, 0 ≤ s.k ∧ s.k ≤ N) : (∀ s ∈ addKeep l n, 0 ≤ s.k ∧ s.k ≤ ((N + n : Nat) : Int)) ∧ (addKeep l n).length ≤ l.length + 1 := by
  unfold addKeep
  cases hl : l.getLast? with
  | none => simp; omega
  | some s =>
    obtain ⟨ys, e⟩ := List.getLast?_eq_some_iff.1 hl
    have hs := h s (by rw [e]; simp)
    have e2 : l.dropLast = ys := by rw [e]; simp
    simp only [e2]
    split
    · refine ⟨fun x hx => ?_, by rw [e]; simp⟩
      simp only [List.mem_append, List.mem_singleton] at hx
      rcases hx with hx | rfl
      · have := h x (by rw [e]; simp [hx]); omega
      · simp; omega
    · refine ⟨fun x hx => ?_, by simp⟩
      simp only [List.mem_append, List.mem_singleton] at hx
      rcases hx with hx | rfl
      · have := h x hx; omega
      · simp; omega
theorem BFit.keep {N n : Nat} {B : Bld} (h : BFit N B) : BFit (N + n + 3) (B.keep n) := by
  unfold Bld.keep
  split
  · exact h.mono (by omega)
  · have hc := h.close
    obtain ⟨h1, h2⟩ := addKeep_k (n := n) hc.k
    exact ⟨by have := hc.len; simp only; omega, fun s hs => by have := h1 s hs; omega, by simp, by simp⟩
theorem BFit.atom {N : Nat} {B : Bld} (h : BFit N B) (a : Atm) : BFit (N + 4) (B.atom a) := by
  cases a with
  | k => exact h.keep (n := 1)
  | d c => exact ⟨by have := h.len; simp only [Bld.atom]; omega, fun s hs => by have := h.k s hs; omega, by have := h.p; simp only [Bld.atom]; omega, by have := h.d; simp [Bld.atom]; omega⟩
  | p c => exact ⟨by have := h.len; simp only [Bld.atom]; omega, fun s hs => by have := h.k s hs; omega, by have := h.p; simp [Bld.atom]; omega, by have := h.d; simp only [Bld.atom]; omega⟩
theorem BFit.run : ∀ (l : List Atm) {N : Nat} {B : Bld}, BFit N B → BFit (N + 4 * l.length) (B.run l)
  | [], _, _, h => h
  | a :: l, N, B, h => by
    have := BFit.run l (h.atom a)
    exact this.mono (by simp; omega)
theorem atoms_len (s : Stp) : s.atoms.length = s.k.toNat + s.d.length + s.p.length := by simp [Stp.atoms]; omega
theorem atoms_le : ∀ l : List Atm, l.length ≤ fromA l + toA l
  | [] => Nat.le_refl _
  | .k :: l => by have := atoms_le l; simp only [fromA, toA, List.length_cons]; omega
  | .d _ :: l => by have := atoms_le l; simp only [fromA, toA, List.length_cons]; omega
  | .p _ :: l => by have := atoms_le l; simp only [fromA, toA, List.length_cons]; omega
theorem snoc_cases {α : Type} (l : List α) : l = [] ∨ ∃ ys s, l = ys ++ [s] := by
  rcases List.eq_nil_or_concat l with h | ⟨ys, s, h⟩
  · exact .inl h
  · exact .inr ⟨ys, s, by simpa using h⟩
end Go.Eng

/-
  The walks of package edit, sixth part: the builder's keep, step and done. No condition.
-/
namespace Go.Proofs.YtelgegefmjlimaaDoor
open Go Go.Eng
set_option maxRecDepth 100000
set_option maxHeartbeats 4000000
set_option linter.all false
attribute [local irreducible] WL WC WQ QFun QLoop Does Q1 QRound QAssign Go.Addr.add
theorem keep_any {b : Nat} {c : Option Addr} {cp : Nat} (B : Bld) (n : Nat) (hn : n ≤ 100000000000) (hB : BFit 100000000000 B) (w0 : World) (m : Mem) (H : SHeap) :
    Does Tryd.prog 45 #[.pointer (some ⟨b, 0, none⟩), .int .i64 (n : Int)] w0 m (.blk b (.cells [.slice c B.l.length cp, str B.p, str B.d].toArray 94 (0, 0)) :: .row c cp 39 3 (B.l.map Stp.cs) :: H)
      (fun v m' H' => v = .tuple #[] ∧ m' = m ∧ ∃ c' cp', H' = .blk b (.cells [.slice c' (B.keep n).l.length cp', str (B.keep n).p, str (B.keep n).d].toArray 94 (0, 0)) :: .row c' cp' 39 3 ((B.keep n).l.map Stp.cs) :: H) := by
  refine Does.of_body (args := [.pointer (some ⟨b, 0, none⟩), .int .i64 (n : Int)]) Tryd.func45 rfl Tryd.ntmps45 rfl ?_
  have hlen := hB.len
  by_cases h0 : n = 0
  · subst h0
    (try (refine st ?_; intros))
    exact q_fin0 (H0 := .blk b (.cells [.slice c B.l.length cp, str B.p, str B.d].toArray 94 (0, 0)) :: .row c cp 39 3 (B.l.map Stp.cs) :: H) ⟨rfl, rfl, c, cp, rfl⟩ (hd := zpk)
  · (try (refine st ?_; intros))
    refine w_callF Tryd.func67 ?_ (hs := close_any B (by omega) _ _ _)
    rintro v m1 H1 ⟨rfl, rfl, c1, cp1, rfl⟩
    have hkeep : B.keep n = ⟨addKeep B.close.l n, [], []⟩ := by unfold Bld.keep; rw [if_neg (by omega)]
    have hc := hB.close
    rw [hkeep]
    have hcl := hc.len
    have hck := hc.k
    generalize B.close.l = L at *
    have hml : (L.map Stp.cs).length = L.length := by simp
    rcases snoc_cases L with hL | ⟨ys, s, hL⟩
    · have hl0 : L.length = 0 := by rw [hL]; rfl
      (refine st ?_; intros; rename_i x2 c2 cp2)
      rw [hml]
      have e : addKeep L n = L ++ [⟨n, [], []⟩] := by rw [hL]; rfl
      exact q_finNorm0 (H0 := .blk b (.cells [.slice c2 (L.length + 1) cp2, str [], str []].toArray 94 (0, 0)) :: .row c2 cp2 39 3 (L.map Stp.cs ++ [[.int .i64 n, str [], str []]]) :: H) ⟨rfl, rfl, c2, cp2, by rw [e]; simp [Stp.cs]⟩ (hd := zpk)
    · have hl1 : L.length = ys.length + 1 := by rw [hL]; simp
      have hget : (L.map Stp.cs)[L.length - 1]? = some s.cs := by rw [hL]; simp
      have hsk := hck s (by rw [hL]; simp)
      refine WL.rowSome (a := c1) zhs (by omega) ?_
      rintro c0 rfl
      by_cases hs : 0 < s.k
      · (try (refine st ?_; intros))
        have e : (addKeep L n).length = L.length ∧ (addKeep L n).map Stp.cs = (L.map Stp.cs).set (L.length - 1) [.int .i64 (s.k + n), str s.d, str s.p] := by
          rw [hL]; constructor <;> simp [addKeep, hs, Stp.cs]
        exact q_fin0 (H0 := .blk b (.cells [.slice (some c0) L.length cp1, str [], str []].toArray 94 (0, 0)) :: .row (some c0) cp1 39 3 ((L.map Stp.cs).set (L.length - 1) [.int .i64 (s.k + n), str s.d, str s.p]) :: H) ⟨rfl, rfl, some c0, cp1, by rw [e.1, e.2]⟩ (hd := zpk)
      · (refine st ?_; intros; rename_i x2 c2 cp2)
        rw [hml]
        have e : addKeep L n = L ++ [⟨n, [], []⟩] := by rw [hL]; simp [addKeep, hs]
        exact q_finNorm0 (H0 := .blk b (.cells [.slice c2 (L.length + 1) cp2, str [], str []].toArray 94 (0, 0)) :: .row c2 cp2 39 3 (L.map Stp.cs ++ [[.int .i64 n, str [], str []]]) :: H) ⟨rfl, rfl, c2, cp2, by rw [e]; simp [Stp.cs]⟩ (hd := zpk)
end Go.Proofs.YtelgegefmjlimaaDoor

/-
  The walks of package edit, eighth part: the builder's step and done, the one form of a change. No condition.
-/
namespace Go.Eng
def Stp.v (s : Stp) : Value := .agg #[.int .i64 s.k, str s.d, str s.p]
end Go.Eng
namespace Go.Proofs.YtelgegefmjlimaaDoor
open Go Go.Eng
set_option maxRecDepth 100000
set_option maxHeartbeats 4000000
set_option linter.all false
attribute [local irreducible] WL WC WQ QFun QLoop Does Q1 QRound QAssign Go.Addr.add
theorem done_any {b : Nat} {c : Option Addr} {cp : Nat} (B : Bld) (hB : B.l.length ≤ 1000000000000) (w0 : World) (m : Mem) (H : SHeap) :
    Does Tryd.prog 46 #[.pointer (some ⟨b, 0, none⟩)] w0 m (.blk b (.cells [.slice c B.l.length cp, str B.p, str B.d].toArray 94 (0, 0)) :: .row c cp 39 3 (B.l.map Stp.cs) :: H)
      (fun v m' H' => m' = m ∧ ∃ c' cp', v = .slice c' B.close.l.length cp' ∧ H' = .row c' cp' 39 3 (B.close.l.map Stp.cs) :: H) := by
  refine Does.of_body (args := [.pointer (some ⟨b, 0, none⟩)]) Tryd.func46 rfl Tryd.ntmps46 rfl ?_
  (try (refine st ?_; intros))
  refine w_callF Tryd.func67 ?_ (hs := close_any B hB _ _ _)
  rintro v m1 H1 ⟨rfl, rfl, c1, cp1, rfl⟩
  (try (refine st ?_; intros))
  exact q_fin0 (H0 := .row c1 cp1 39 3 (B.close.l.map Stp.cs) :: H) ⟨rfl, c1, cp1, rfl, rfl⟩ (hd := zpk)
end Go.Proofs.YtelgegefmjlimaaDoor

/-
  The walks of package edit, second part: the sizes of a change, by the program and by the reference. No condition.
-/
namespace Go.Proofs.YtelgegefmjlimaaDoor
open Go Go.Eng
set_option maxRecDepth 100000
set_option maxHeartbeats 4000000
set_option linter.all false
attribute [local irreducible] WL WC WQ QFun QLoop Does Q1 QRound QAssign Go.Addr.add
attribute [local irreducible] sizesF sizesOf
theorem sizes_any {a : Option Addr} {cap : Nat} {l : List Stp} (hf : Fit l) (w0 : World) (m : Mem) (H : SHeap) (hr : RowR w0 m H 3 a (l.map Stp.cs)) :
    Does Tryd.prog 32 #[.slice a l.length cap] w0 m H (Gives (szP (sizesOf l)) m H) := by
  refine Does.of_body (args := [.slice a l.length cap]) Tryd.func32 rfl Tryd.ntmps32 rfl ?_
  have hln : (l.map Stp.cs).length = l.length := by simp
  have hlen := hf.len
  (try (refine st ?_; intros))
  refine WC.loopH [(12, .int .i64 ((0) : Int)), (11, .int .i64 (l.length : Int)), (10, .slice a l.length cap), (5, .int .i64 (0)), (6, .int .i64 (0))] ?_ ?_ (fun j r ds m' H' => ∃ (i : _) (f : Int) (t : Int), j = l.length - i ∧ r = [(12, .int .i64 (i : Int)), (11, .int .i64 (l.length : Int)), (10, .slice a l.length cap), (5, .int .i64 f), (6, .int .i64 t)] ∧ ds = [] ∧ m = m' ∧ H' = H ∧ (i ≤ l.length) ∧ (0 ≤ f ∧ f ≤ 65536 ∧ 0 ≤ t ∧ t ≤ 65536) ∧ (sizesF (l.drop i) f t = sizesOf l) ∧ (RowR w0 m H 3 a (l.map Stp.cs))) (l.length - (0)) ⟨0, 0, 0, rfl, rfl, rfl, rfl, rfl, by omega, by omega, by rw [sizesOf]; rfl, hr⟩ ?_
  · (repeat (first | exact Env.Sub.nil | refine Env.Sub.cons rfl ?_))
  · exact zpk
  rintro j r ds m' H' ⟨i, f, t, rfl, rfl, rfl, rfl, rfl, hi, hn, hs, hr⟩
  generalize H' = H at *
  by_cases hlt : i < l.length
  · obtain ⟨x, hx, hget, htk, hmem, hdr⟩ := at_idx (f := Stp.cs) hlt
    have hk := hf.k x hmem
    have hd := hf.d x hmem
    have hp := hf.p x hmem
    rw [hdr] at hs
    refine WC.rSome hr (by omega) ?_
    rintro a0 rfl
    have hdl : x.d = [] → x.d.length = 0 := fun h => by rw [h]; rfl
    have hpl : x.p = [] → x.p.length = 0 := fun h => by rw [h]; rfl
    by_cases h1 : x.k = 0 <;> by_cases h2 : x.d = [] <;> by_cases h3 : x.p = []
    · rw [sizesF_bad (fun h => by simp [stpOk, h1, h2, h3] at h)] at hs
      (try (refine st ?_; intros))
      exact q_fin0 (H0 := H) (Gives.mk (by rw [← hs]; try rfl)) (hd := zpk)
    · have hok : stpOk x := .inr (.inr ⟨h1, h2, h3⟩)
      have h2' := hdl h2
      by_cases h4 : t + (x.k + (x.p.length : Int)) ≤ 65536
      · rw [sizesF_good hok (by omega) (by omega) (by omega)] at hs
        (try (refine st ?_; intros))
        refine WQ.next (l.length - (i + 1)) ⟨i + 1, _, _, rfl, rfl, rfl, rfl, rfl, ?_, ?_, ?_, ?_⟩ (by omega) zsb zpk
        · omega
        · omega
        · rw [← hs]; congr 1 <;> omega
        · assumption
      · rw [sizesF_bad (by omega)] at hs
        (try (refine st ?_; intros))
        exact q_fin0 (H0 := H) (Gives.mk (by rw [← hs]; try rfl)) (hd := zpk)
    · have hok : stpOk x := .inr (.inl ⟨h1, h2, h3⟩)
      have h3' := hpl h3
      by_cases h4 : f + (x.k + (x.d.length : Int)) ≤ 65536
      · rw [sizesF_good hok (by omega) (by omega) (by omega)] at hs
        (try (refine st ?_; intros))
        refine WQ.next (l.length - (i + 1)) ⟨i + 1, _, _, rfl, rfl, rfl, rfl, rfl, ?_, ?_, ?_, ?_⟩ (by omega) zsb zpk
        · omega
        · omega
        · rw [← hs]; congr 1 <;> omega
        · assumption
      · rw [sizesF_bad (by omega)] at hs
        (try (refine st ?_; intros))
        exact q_fin0 (H0 := H) (Gives.mk (by rw [← hs]; try rfl)) (hd := zpk)
    · rw [sizesF_bad (fun h => by simp [stpOk, h1, h2, h3] at h)] at hs
      (try (refine st ?_; intros))
      exact q_fin0 (H0 := H) (Gives.mk (by rw [← hs]; try rfl)) (hd := zpk)
    · have h2' := hdl h2
      have h3' := hpl h3
      by_cases h5 : x.k < 0
      · rw [sizesF_bad (fun h => by rcases h.1 with g | g | g <;> omega)] at hs
        (try (refine st ?_; intros))
        exact q_fin0 (H0 := H) (Gives.mk (by rw [← hs]; try rfl)) (hd := zpk)
      · by_cases h6 : 65536 < x.k
        · rw [sizesF_bad (by omega)] at hs
          (try (refine st ?_; intros))
          exact q_fin0 (H0 := H) (Gives.mk (by rw [← hs]; try rfl)) (hd := zpk)
        · have hok : stpOk x := .inl ⟨by omega, h2, h3⟩
          by_cases h4 : f + (x.k + (x.d.length : Int)) ≤ 65536
          · by_cases h7 : t + (x.k + (x.p.length : Int)) ≤ 65536
            · rw [sizesF_good hok (by omega) (by omega) (by omega)] at hs
              (try (refine st ?_; intros))
              refine WQ.next (l.length - (i + 1)) ⟨i + 1, _, _, rfl, rfl, rfl, rfl, rfl, ?_, ?_, ?_, ?_⟩ (by omega) zsb zpk
              · omega
              · omega
              · rw [← hs]; congr 1 <;> omega
              · assumption
            · rw [sizesF_bad (by omega)] at hs
              (try (refine st ?_; intros))
              exact q_fin0 (H0 := H) (Gives.mk (by rw [← hs]; try rfl)) (hd := zpk)
          · rw [sizesF_bad (by omega)] at hs
            (try (refine st ?_; intros))
            exact q_fin0 (H0 := H) (Gives.mk (by rw [← hs]; try rfl)) (hd := zpk)
    all_goals
      rw [sizesF_bad (fun h => by simp [stpOk, h1, h2, h3] at h)] at hs
      (try (refine st ?_; intros))
      exact q_fin0 (H0 := H) (Gives.mk (by rw [← hs]; try rfl)) (hd := zpk)
  · obtain rfl : i = l.length := by omega
    rw [List.drop_length, sizesF] at hs
    (try (refine st ?_; intros))
    exact q_fin0 (H0 := H) (Gives.mk (by rw [← hs]; try rfl)) (hd := zpk)
end Go.Proofs.YtelgegefmjlimaaDoor

/-
  What a change that may be bounds; the walk of edit.move. No condition.
-/
namespace Go.Eng
/-- what a change that may be bounds -/
theorem sized {l : List Stp} {f t : Int} (h : sizesOf l = some (f, t)) : (∀ s ∈ l, stpOk s) ∧ (atomsOf l).length ≤ 131072 ∧ (atomsOf (plainOf l)).length ≤ 131072 ∧ f = (fromA (atomsOf l) : Int) ∧ t = (toA (atomsOf l) : Int) ∧ 0 ≤ f ∧ f ≤ 65536 ∧ 0 ≤ t ∧ t ≤ 65536 := by
  obtain ⟨h1, h2, h3, h4, h5⟩ := sizesOf_some h
  have hok : ∀ s ∈ l, stpOk s := fun s hs => (h1 s hs).1
  have a1 := atoms_le (atomsOf l)
  have a2 := atoms_le (atomsOf (plainOf l))
  obtain ⟨n1, n2⟩ := nf_sizes l hok
  rw [plain_atoms, n1, n2] at a2
  unfold maxT at h4 h5
  rw [plain_atoms]
  exact ⟨hok, by omega, by omega, h2, h3, by omega, by omega, by omega, by omega⟩
end Go.Eng
namespace Go.Proofs.YtelgegefmjlimaaDoor
open Go Go.Eng
set_option maxRecDepth 100000
set_option maxHeartbeats 4000000
set_option linter.all false
attribute [local irreducible] WL WC WQ QFun QLoop Does Q1 QRound QAssign Go.Addr.add
end Go.Proofs.YtelgegefmjlimaaDoor

/-
  Plain facts on changes: what a change makes of a text. No condition.
-/
namespace Go.Eng
open Go
/-- what a change makes of a text; none: they are apart -/
def applyA : List UInt8 → List Atm → Option (List UInt8)
  | _, [] => some []
  | s, .p b :: l => (applyA s l).map (b :: ·)
  | c :: s, .k :: l => (applyA s l).map (c :: ·)
  | c :: s, .d b :: l => if c = b then applyA s l else none
  | [], .k :: _ => none
  | [], .d _ :: _ => none
theorem applyA_p (s : List UInt8) (b : UInt8) (l : List Atm) : applyA s (.p b :: l) = (applyA s l).map (b :: ·) := by cases s <;> rfl
theorem applyA_nil (s : List UInt8) : applyA s [] = some [] := by cases s <;> rfl
theorem applyA_ps (s : List UInt8) : ∀ (ds : List UInt8) (l : List Atm), applyA s (ds.map .p ++ l) = (applyA s l).map (ds ++ ·)
  | [], l => by simp
  | b :: ds, l => by rw [List.map_cons, List.cons_append, applyA_p, applyA_ps s ds l, Option.map_map]; rfl
theorem applyA_ks : ∀ (n : Nat) (s : List UInt8) (l : List Atm), n ≤ s.length → applyA s (List.replicate n .k ++ l) = (applyA (s.drop n) l).map (s.take n ++ ·)
  | 0, s, l, _ => by simp
  | n + 1, [], l, h => by simp at h
  | n + 1, c :: s, l, h => by
    rw [List.replicate_succ, List.cons_append, applyA, applyA_ks n s l (by simpa using h), Option.map_map]; rfl
theorem applyA_ds : ∀ (ds s : List UInt8) (l : List Atm), ds.length ≤ s.length → applyA s (ds.map .d ++ l) = if s.take ds.length = ds then applyA (s.drop ds.length) l else none
  | [], s, l, _ => by simp
  | b :: ds, [], l, h => by simp at h
  | b :: ds, c :: s, l, h => by
    rw [List.map_cons, List.cons_append, applyA, applyA_ds ds s l (by simpa using h)]
    by_cases hb : c = b
    · subst hb; simp
    · simp [hb]
end Go.Eng

/-
  The walks of package edit, tenth part: what a change makes of a text; the law's example. No condition.
-/
namespace Go.Eng
open Go Go.RowKit
theorem RowR.blk {w0 : World} {m : Mem} {H : SHeap} {b sz : Nat} {T : TypeId} {fz : Nat × Nat} {es : List (List Value)} {L : List Value} (hm : Item.blk b (.cells L.toArray T fz) ∈ H) (h1 : ∀ e ∈ es, e.length = sz) (hL : es.flatten = L) : RowR w0 m H sz (.some ⟨b, 0, .none⟩) es := by
  subst hL
  intro w hs
  refine ⟨h1, fun j v hj => ?_⟩
  rw [add_none]
  exact Cell.blk hm (by simpa using hj) w hs
def bV (b : UInt8) : List Value := [.int .u8 (b.toNat : Int)]
def applyV (s : List UInt8) (l : List Stp) : Value := match sizesOf l with
  | none => .tuple #[str [], .int .i64 2]
  | some (f, _) => if f ≠ s.length then .tuple #[str [], .int .i64 5] else match applyA s (atomsOf l) with
    | none => .tuple #[str [], .int .i64 270]
    | some o => .tuple #[str o, .int .i64 0]
end Go.Eng
namespace Go.Proofs.YtelgegefmjlimaaDoor
open Go Go.Eng
set_option maxRecDepth 100000
set_option maxHeartbeats 4000000
set_option linter.all false
attribute [local irreducible] WL WC WQ QFun QLoop Does Q1 QRound QAssign Go.Addr.add
attribute [local irreducible] applyA sizesF sizesOf
theorem sq_E10_1 {G : Prop} (h : G := by (repeat (first | (refine sp ?_; (repeat intro zzc)) | (refine iF 32 rfl ?_; refine w_callG Tryd.func32 ?_ (hs := sizes_any (by assumption) _ _ _ (by assumption))))); exact WQ.q1 rfl) : G := h
theorem st_E10_1 {G G' : Prop} (next : G') (h : Bx G' → G := by intro zzn; (first | ((refine st ?_; (repeat intro zzc)); (try ((first | (refine iF 32 rfl ?_; refine w_callG Tryd.func32 ?_ (hs := sizes_any (by assumption) _ _ _ (by assumption))) | ((refine iDraw ?_; (first | refine WC.drawAll rfl (by decide +kernel) ?_ | refine WC.draw 1 rfl (by decide +kernel) ?_ | refine WC.draw 2 rfl (by decide +kernel) ?_ | refine WC.draw 3 rfl (by decide +kernel) ?_ | refine WC.draw 4 rfl (by decide +kernel) ?_ | refine WC.draw 5 rfl (by decide +kernel) ?_ | refine WC.draw 6 rfl (by decide +kernel) ?_ | refine WC.draw 7 rfl (by decide +kernel) ?_ | refine WC.draw 8 rfl (by decide +kernel) ?_ | refine WC.draw 9 rfl (by decide +kernel) ?_ | refine WC.draw 10 rfl (by decide +kernel) ?_ | refine WC.draw 11 rfl (by decide +kernel) ?_ | refine WC.draw 12 rfl (by decide +kernel) ?_ | refine WC.draw 13 rfl (by decide +kernel) ?_ | refine WC.draw 14 rfl (by decide +kernel) ?_ | refine WC.draw 15 rfl (by decide +kernel) ?_ | refine WC.draw 16 rfl (by decide +kernel) ?_ | refine WC.draw 17 rfl (by decide +kernel) ?_ | refine WC.draw 18 rfl (by decide +kernel) ?_ | refine WC.draw 19 rfl (by decide +kernel) ?_ | refine WC.draw 20 rfl (by decide +kernel) ?_ | refine WC.draw 21 rfl (by decide +kernel) ?_ | refine WC.draw 22 rfl (by decide +kernel) ?_ | refine WC.draw 23 rfl (by decide +kernel) ?_ | refine WC.draw 24 rfl (by decide +kernel) ?_)); (repeat (refine WD.cons rfl (fun c h => by cases h) sq_E10_1 ?_)); refine WD.nil ?_)); (try (refine st ?_; (repeat intro zzc)))))) | ((first | (refine iF 32 rfl ?_; refine w_callG Tryd.func32 ?_ (hs := sizes_any (by assumption) _ _ _ (by assumption))) | ((refine iDraw ?_; (first | refine WC.drawAll rfl (by decide +kernel) ?_ | refine WC.draw 1 rfl (by decide +kernel) ?_ | refine WC.draw 2 rfl (by decide +kernel) ?_ | refine WC.draw 3 rfl (by decide +kernel) ?_ | refine WC.draw 4 rfl (by decide +kernel) ?_ | refine WC.draw 5 rfl (by decide +kernel) ?_ | refine WC.draw 6 rfl (by decide +kernel) ?_ | refine WC.draw 7 rfl (by decide +kernel) ?_ | refine WC.draw 8 rfl (by decide +kernel) ?_ | refine WC.draw 9 rfl (by decide +kernel) ?_ | refine WC.draw 10 rfl (by decide +kernel) ?_ | refine WC.draw 11 rfl (by decide +kernel) ?_ | refine WC.draw 12 rfl (by decide +kernel) ?_ | refine WC.draw 13 rfl (by decide +kernel) ?_ | refine WC.draw 14 rfl (by decide +kernel) ?_ | refine WC.draw 15 rfl (by decide +kernel) ?_ | refine WC.draw 16 rfl (by decide +kernel) ?_ | refine WC.draw 17 rfl (by decide +kernel) ?_ | refine WC.draw 18 rfl (by decide +kernel) ?_ | refine WC.draw 19 rfl (by decide +kernel) ?_ | refine WC.draw 20 rfl (by decide +kernel) ?_ | refine WC.draw 21 rfl (by decide +kernel) ?_ | refine WC.draw 22 rfl (by decide +kernel) ?_ | refine WC.draw 23 rfl (by decide +kernel) ?_ | refine WC.draw 24 rfl (by decide +kernel) ?_)); (repeat (refine WD.cons rfl (fun c h => by cases h) sq_E10_1 ?_)); refine WD.nil ?_)); (try (refine st ?_; (repeat intro zzc))))); (repeat ((first | (refine iF 32 rfl ?_; refine w_callG Tryd.func32 ?_ (hs := sizes_any (by assumption) _ _ _ (by assumption))) | ((refine iDraw ?_; (first | refine WC.drawAll rfl (by decide +kernel) ?_ | refine WC.draw 1 rfl (by decide +kernel) ?_ | refine WC.draw 2 rfl (by decide +kernel) ?_ | refine WC.draw 3 rfl (by decide +kernel) ?_ | refine WC.draw 4 rfl (by decide +kernel) ?_ | refine WC.draw 5 rfl (by decide +kernel) ?_ | refine WC.draw 6 rfl (by decide +kernel) ?_ | refine WC.draw 7 rfl (by decide +kernel) ?_ | refine WC.draw 8 rfl (by decide +kernel) ?_ | refine WC.draw 9 rfl (by decide +kernel) ?_ | refine WC.draw 10 rfl (by decide +kernel) ?_ | refine WC.draw 11 rfl (by decide +kernel) ?_ | refine WC.draw 12 rfl (by decide +kernel) ?_ | refine WC.draw 13 rfl (by decide +kernel) ?_ | refine WC.draw 14 rfl (by decide +kernel) ?_ | refine WC.draw 15 rfl (by decide +kernel) ?_ | refine WC.draw 16 rfl (by decide +kernel) ?_ | refine WC.draw 17 rfl (by decide +kernel) ?_ | refine WC.draw 18 rfl (by decide +kernel) ?_ | refine WC.draw 19 rfl (by decide +kernel) ?_ | refine WC.draw 20 rfl (by decide +kernel) ?_ | refine WC.draw 21 rfl (by decide +kernel) ?_ | refine WC.draw 22 rfl (by decide +kernel) ?_ | refine WC.draw 23 rfl (by decide +kernel) ?_ | refine WC.draw 24 rfl (by decide +kernel) ?_)); (repeat (refine WD.cons rfl (fun c h => by cases h) sq_E10_1 ?_)); refine WD.nil ?_)); (try (refine st ?_; (repeat intro zzc))))); (repeat revert zzc); exact zzn.out) : G := h ⟨next⟩
theorem apply_any {a : Option Addr} {cap : Nat} {l : List Stp} {s : List UInt8} (hf : Fit l) (hsl : s.length ≤ 1000000000) (w0 : World) (m : Mem) (H : SHeap) (hr : RowR w0 m H 3 a (l.map Stp.cs)) :
    Does Tryd.prog 22 #[str s, .slice a l.length cap] w0 m H (Gives (applyV s l) m H) := by
  refine Does.of_body (args := [str s, .slice a l.length cap]) Tryd.func22 rfl Tryd.ntmps22 rfl ?_
  have hln : (l.map Stp.cs).length = l.length := by simp
  have hlen := hf.len
  cases hs : sizesOf l with
  | none =>
    have e : applyV s l = .tuple #[str [], .int .i64 2] := by simp only [applyV, hs]
    have e2 : szP (sizesOf l) = .tuple #[.int .i64 0, .int .i64 0, .int .i64 2] := by rw [hs]; rfl
    rw [e]
    (try (refine st_E10_1 ?_; intros))
    rw [e2]
    (try (refine st_E10_1 ?_; intros))
    exact q_fin0 (H0 := H) (Gives.mk rfl) (hd := zpk)
  | some ft =>
    obtain ⟨f, t⟩ := ft
    have e2 : szP (sizesOf l) = .tuple #[.int .i64 f, .int .i64 t, .int .i64 0] := by rw [hs]; rfl
    obtain ⟨hok, hal, hpl, hfr, _, g1, g2, _, _⟩ := sized hs
    by_cases hfs : f = s.length
    · (try (refine st_E10_1 ?_; intros))
      rw [e2]
      (try (refine st_E10_1 ?_; intros))
      refine WC.newRow (T := 5) (sz := 1) ?_
      refine WC.loopH [(29, .int .i64 ((0) : Int)), (28, .int .i64 (l.length : Int)), (27, .slice a l.length cap), (0, str (s)), (9, .slice (none) (0) (0))] ?_ ?_ (fun j r ds m' H' => ∃ i S a9 c9 n9 O, j = l.length - i ∧ r = [(29, .int .i64 (i : Int)), (28, .int .i64 (l.length : Int)), (27, .slice a l.length cap), (0, str S), (9, .slice a9 n9 c9)] ∧ ds = [] ∧ m = m' ∧ H' = .row a9 c9 5 1 (O.map bV) :: H ∧ (i ≤ l.length) ∧ (n9 = O.length) ∧ (O.length ≤ (atomsOf (l.take i)).length + s.length - S.length) ∧ (S.length ≤ s.length) ∧ (fromA (atomsOf (l.drop i)) = S.length) ∧ ((applyA S (atomsOf (l.drop i))).map (O ++ ·) = applyA s (atomsOf l))) (l.length - (0)) ⟨0, s, none, 0, 0, ([] : List UInt8), rfl, rfl, rfl, rfl, rfl, by omega, rfl, by simp, by omega, by rw [List.drop_zero]; omega, by simp⟩ ?_
      · (repeat (first | exact Env.Sub.nil | refine Env.Sub.cons rfl ?_))
      · exact zpk
      rintro j r ds m' H' ⟨i, S, a9, c9, n9, O, rfl, rfl, rfl, rfl, rfl, hi, hn9, hO, hSl, hSf, hR⟩
      have hOl : (O.map bV).length = O.length := by simp
      have htl : (atomsOf (l.take i)).length ≤ (atomsOf l).length := by
        have e : atomsOf l = atomsOf (l.take i) ++ atomsOf (l.drop i) := by rw [← atoms_append, List.take_append_drop]
        rw [e]; simp
      subst hn9
      by_cases hlt : i < l.length
      · obtain ⟨x, hx, hget, htk, hmem, hdr⟩ := at_idx (f := Stp.cs) hlt
        have hxl : (atomsOf (l.take (i + 1))).length = (atomsOf (l.take i)).length + x.atoms.length := by rw [htk, atoms_append, atoms_one, List.length_append]
        have hxm : (atomsOf (l.take (i + 1))).length ≤ (atomsOf l).length := by
          have e : atomsOf l = atomsOf (l.take (i + 1)) ++ atomsOf (l.drop (i + 1)) := by rw [← atoms_append, List.take_append_drop]
          rw [e, List.length_append]; omega
        rw [atoms_len] at hxl
        rw [hdr, atoms_cons] at hR hSf
        rw [fromA_append, from_step] at hSf
        have hr1 := hr.more (i := .row a9 c9 5 1 (O.map bV))
        have hxok := hok x hmem
        refine WC.rSome hr1 (by omega) ?_
        rintro a0 rfl
        rcases hxok with ⟨h1, h2, h3⟩ | ⟨h1, h2, h3⟩ | ⟨h1, h2, h3⟩
        · have h2' : x.d.length = 0 := by rw [h2]; rfl
          have h3' : x.p.length = 0 := by rw [h3]; rfl
          have ea : x.atoms = List.replicate x.k.toNat .k := by simp [Stp.atoms, h2, h3]
          rw [ea, applyA_ks x.k.toNat S _ (by omega), Option.map_map] at hR
          have hmin : (S.take x.k.toNat).length = x.k.toNat := by simp; omega
          have hed : (S.drop x.k.toNat).length = S.length - x.k.toNat := by simp
          (refine st_E10_1 ?_; intros; rename_i bx a8 c8)
          rw [hOl, hmin]
          have em : O.map bV ++ (S.take x.k.toNat).map (fun b => [Value.int .u8 (b.toNat : Int)]) = (O ++ S.take x.k.toNat).map bV := by rw [List.map_append]; rfl
          rw [em]
          refine WQ.next (l.length - (i + 1)) ⟨i + 1, S.drop x.k.toNat, a8, c8, O.length + x.k.toNat, O ++ S.take x.k.toNat, rfl, rfl, rfl, rfl, rfl, ?_, ?_, ?_, ?_, ?_, ?_⟩ (by omega) zsb zpk
          · omega
          · rw [List.length_append, hmin]
          · rw [List.length_append, hmin]; omega
          · omega
          · omega
          · rw [← hR]; congr 1; funext q; simp
        · have h3' : x.p.length = 0 := by rw [h3]; rfl
          have ea : x.atoms = x.d.map .d := by simp [Stp.atoms, h1, h3]
          rw [ea, applyA_ds x.d S _ (by omega)] at hR
          have hed : (S.drop x.d.length).length = S.length - x.d.length := by simp
          by_cases h4 : S.take x.d.length = x.d
          · rw [if_pos h4] at hR
            (try (refine st_E10_1 ?_; intros))
            refine WQ.next (l.length - (i + 1)) ⟨i + 1, S.drop x.d.length, a9, c9, O.length, O, rfl, rfl, rfl, rfl, rfl, ?_, ?_, ?_, ?_, ?_, ?_⟩ (by omega) zsb zpk
            · omega
            · rfl
            · omega
            · omega
            · omega
            · exact hR
          · rw [if_neg h4] at hR
            have e : applyV s l = .tuple #[str [], .int .i64 270] := by simp only [applyV, hs, hfs, ne_eq, not_true, if_false, ← hR, Option.map_none]
            rw [e]
            (try (refine st_E10_1 ?_; intros))
            exact q_fin0 (H0 := H) (Gives.mk rfl) (hd := zpk)
        · have h2' : x.d.length = 0 := by rw [h2]; rfl
          have ea : x.atoms = x.p.map .p := by simp [Stp.atoms, h1, h2]
          rw [ea, applyA_ps S x.p, Option.map_map] at hR
          (refine st_E10_1 ?_; intros; rename_i bx a8 c8)
          rw [hOl]
          have em : O.map bV ++ x.p.map (fun b => [Value.int .u8 (b.toNat : Int)]) = (O ++ x.p).map bV := by rw [List.map_append]; rfl
          rw [em]
          refine WQ.next (l.length - (i + 1)) ⟨i + 1, S, a8, c8, O.length + x.p.length, O ++ x.p, rfl, rfl, rfl, rfl, rfl, ?_, ?_, ?_, ?_, ?_, ?_⟩ (by omega) zsb zpk
          · omega
          · rw [List.length_append]
          · rw [List.length_append]; omega
          · omega
          · omega
          · rw [← hR]; congr 1; funext q; simp
      · obtain rfl : i = l.length := by omega
        rw [List.drop_length] at hR
        have e : applyV s l = .tuple #[str O, .int .i64 0] := by
          have : some O = applyA s (atomsOf l) := by rw [← hR, show atomsOf [] = [] from rfl, applyA_nil]; simp
          simp only [applyV, hs, hfs, ne_eq, not_true, if_false, ← this]
        rw [e]
        (try (refine st_E10_1 ?_; intros))
        refine WL.rowStr (s := O) rfl rfl zhs rfl rfl rfl rfl rfl ?_
        (try (refine st_E10_1 ?_; intros))
        exact q_fin0 (H0 := H) (Gives.mk rfl) (hd := zpk)
    · have e : applyV s l = .tuple #[str [], .int .i64 5] := by simp [applyV, hs, hfs]
      rw [e]
      (try (refine st_E10_1 ?_; intros))
      rw [e2]
      (try (refine st_E10_1 ?_; intros))
      exact q_fin0 (H0 := H) (Gives.mk rfl) (hd := zpk)
theorem sq_E10_2 {G : Prop} (h : G := by (repeat (first | (refine sp ?_; (repeat intro zzc)))); exact WQ.q1 rfl) : G := h
theorem st_E10_2 {G G' : Prop} (next : G') (h : Bx G' → G := by intro zzn; (first | ((refine st ?_; (repeat intro zzc)); (try ((first | ((refine iDraw ?_; (first | refine WC.drawAll rfl (by decide +kernel) ?_ | refine WC.draw 1 rfl (by decide +kernel) ?_ | refine WC.draw 2 rfl (by decide +kernel) ?_ | refine WC.draw 3 rfl (by decide +kernel) ?_ | refine WC.draw 4 rfl (by decide +kernel) ?_ | refine WC.draw 5 rfl (by decide +kernel) ?_ | refine WC.draw 6 rfl (by decide +kernel) ?_ | refine WC.draw 7 rfl (by decide +kernel) ?_ | refine WC.draw 8 rfl (by decide +kernel) ?_ | refine WC.draw 9 rfl (by decide +kernel) ?_ | refine WC.draw 10 rfl (by decide +kernel) ?_ | refine WC.draw 11 rfl (by decide +kernel) ?_ | refine WC.draw 12 rfl (by decide +kernel) ?_ | refine WC.draw 13 rfl (by decide +kernel) ?_ | refine WC.draw 14 rfl (by decide +kernel) ?_ | refine WC.draw 15 rfl (by decide +kernel) ?_ | refine WC.draw 16 rfl (by decide +kernel) ?_ | refine WC.draw 17 rfl (by decide +kernel) ?_ | refine WC.draw 18 rfl (by decide +kernel) ?_ | refine WC.draw 19 rfl (by decide +kernel) ?_ | refine WC.draw 20 rfl (by decide +kernel) ?_ | refine WC.draw 21 rfl (by decide +kernel) ?_ | refine WC.draw 22 rfl (by decide +kernel) ?_ | refine WC.draw 23 rfl (by decide +kernel) ?_ | refine WC.draw 24 rfl (by decide +kernel) ?_)); (repeat (refine WD.cons rfl (fun c h => by cases h) sq_E10_2 ?_)); refine WD.nil ?_)); (try (refine st ?_; (repeat intro zzc)))))) | ((first | ((refine iDraw ?_; (first | refine WC.drawAll rfl (by decide +kernel) ?_ | refine WC.draw 1 rfl (by decide +kernel) ?_ | refine WC.draw 2 rfl (by decide +kernel) ?_ | refine WC.draw 3 rfl (by decide +kernel) ?_ | refine WC.draw 4 rfl (by decide +kernel) ?_ | refine WC.draw 5 rfl (by decide +kernel) ?_ | refine WC.draw 6 rfl (by decide +kernel) ?_ | refine WC.draw 7 rfl (by decide +kernel) ?_ | refine WC.draw 8 rfl (by decide +kernel) ?_ | refine WC.draw 9 rfl (by decide +kernel) ?_ | refine WC.draw 10 rfl (by decide +kernel) ?_ | refine WC.draw 11 rfl (by decide +kernel) ?_ | refine WC.draw 12 rfl (by decide +kernel) ?_ | refine WC.draw 13 rfl (by decide +kernel) ?_ | refine WC.draw 14 rfl (by decide +kernel) ?_ | refine WC.draw 15 rfl (by decide +kernel) ?_ | refine WC.draw 16 rfl (by decide +kernel) ?_ | refine WC.draw 17 rfl (by decide +kernel) ?_ | refine WC.draw 18 rfl (by decide +kernel) ?_ | refine WC.draw 19 rfl (by decide +kernel) ?_ | refine WC.draw 20 rfl (by decide +kernel) ?_ | refine WC.draw 21 rfl (by decide +kernel) ?_ | refine WC.draw 22 rfl (by decide +kernel) ?_ | refine WC.draw 23 rfl (by decide +kernel) ?_ | refine WC.draw 24 rfl (by decide +kernel) ?_)); (repeat (refine WD.cons rfl (fun c h => by cases h) sq_E10_2 ?_)); refine WD.nil ?_)); (try (refine st ?_; (repeat intro zzc))))); (repeat ((first | ((refine iDraw ?_; (first | refine WC.drawAll rfl (by decide +kernel) ?_ | refine WC.draw 1 rfl (by decide +kernel) ?_ | refine WC.draw 2 rfl (by decide +kernel) ?_ | refine WC.draw 3 rfl (by decide +kernel) ?_ | refine WC.draw 4 rfl (by decide +kernel) ?_ | refine WC.draw 5 rfl (by decide +kernel) ?_ | refine WC.draw 6 rfl (by decide +kernel) ?_ | refine WC.draw 7 rfl (by decide +kernel) ?_ | refine WC.draw 8 rfl (by decide +kernel) ?_ | refine WC.draw 9 rfl (by decide +kernel) ?_ | refine WC.draw 10 rfl (by decide +kernel) ?_ | refine WC.draw 11 rfl (by decide +kernel) ?_ | refine WC.draw 12 rfl (by decide +kernel) ?_ | refine WC.draw 13 rfl (by decide +kernel) ?_ | refine WC.draw 14 rfl (by decide +kernel) ?_ | refine WC.draw 15 rfl (by decide +kernel) ?_ | refine WC.draw 16 rfl (by decide +kernel) ?_ | refine WC.draw 17 rfl (by decide +kernel) ?_ | refine WC.draw 18 rfl (by decide +kernel) ?_ | refine WC.draw 19 rfl (by decide +kernel) ?_ | refine WC.draw 20 rfl (by decide +kernel) ?_ | refine WC.draw 21 rfl (by decide +kernel) ?_ | refine WC.draw 22 rfl (by decide +kernel) ?_ | refine WC.draw 23 rfl (by decide +kernel) ?_ | refine WC.draw 24 rfl (by decide +kernel) ?_)); (repeat (refine WD.cons rfl (fun c h => by cases h) sq_E10_2 ?_)); refine WD.nil ?_)); (try (refine st ?_; (repeat intro zzc))))); (repeat revert zzc); exact zzn.out) : G := h ⟨next⟩
theorem live_val : applyV [97, 98] [⟨1, [], []⟩, ⟨0, [98], []⟩, ⟨0, [], [99]⟩] = .tuple #[str [97, 99], .int .i64 0] := by
  have h1 : sizesOf [⟨1, [], []⟩, ⟨0, [98], []⟩, ⟨0, [], [99]⟩] = some (2, 2) := by decide +kernel
  have h2 : applyA [97, 98] (atomsOf [⟨1, [], []⟩, ⟨0, [98], []⟩, ⟨0, [], [99]⟩]) = some [97, 99] := by decide +kernel
  simp only [applyV, h1, h2]
  rfl
theorem live_any (w0 : World) (m : Mem) (H : SHeap) : Does Tryd.prog 6 #[] w0 m H (Gives (.bool true) m H) := by
  refine Does.of_body (args := []) Tryd.func6 rfl Tryd.ntmps6 rfl ?_
  (refine st_E10_2 ?_; intros; rename_i b)
  refine w_callF Tryd.func22 ?_ (hs := apply_any (s := [97, 98]) (l := [⟨1, [], []⟩, ⟨0, [98], []⟩, ⟨0, [], [99]⟩]) ⟨by decide, by decide, by decide, by decide⟩ (by decide) _ _ _ (RowR.blk zhs (by decide) rfl))
  rintro v m1 H1 ⟨rfl, rfl, rfl⟩
  rw [live_val]
  (try (refine st_E10_2 ?_; intros))
  (refine q_fin0 ?_)
  exact Gives.mk (by rw [dcd_true rfl])
end Go.Proofs.YtelgegefmjlimaaDoor

/-
  Plain facts on changes: parts of a step. No condition.
-/
namespace Go.Eng
open Go
def takeS (s : Stp) (n : Nat) : Stp := if 0 < s.k then ⟨n, [], []⟩ else if s.d ≠ [] then ⟨0, s.d.take n, []⟩ else ⟨0, [], s.p.take n⟩
def dropS (s : Stp) (n : Nat) : Stp := if 0 < s.k then ⟨s.k - n, [], []⟩ else if s.d ≠ [] then ⟨0, s.d.drop n, []⟩ else ⟨0, [], s.p.drop n⟩
def restS (s : Stp) (n : Nat) (X : List Stp) : List Stp := if n = s.atoms.length then X else dropS s n :: X
end Go.Eng

/-
  Plain facts on changes: composing them by parts of steps. No condition.
-/
namespace Go.Eng
open Go
/-- what two changes come to, one behind the other -/
def compP (a b : List Stp) : Int ⊕ List Stp := match sizesOf a, sizesOf b with
  | some (_, mid), some (from_, _) => if mid ≠ from_ then .inl 5 else match compA (nfOf (gapsOf a)) (nfOf (gapsOf b)) with
    | none => .inl 270
    | some o => .inr (Bld.start.run o).close.l
  | _, _ => .inl 2
end Go.Eng

/-
  Plain facts on changes: composing, with the builder at hand. No condition.
-/
namespace Go.Eng
open Go
/-- the answer, from here on -/
def cmpT (B : Bld) (xs ys : List Atm) : Option (List Stp) := (compA xs ys).map fun o => (B.run o).close.l
/-- the bytes of what a change makes: where each was, or what was put -/
def midsA : Nat → List Atm → List (Int × UInt8)
  | _, [] => []
  | i, .k :: l => ((i : Int), 0) :: midsA (i + 1) l
  | i, .d _ :: l => midsA (i + 1) l
  | i, .p c :: l => (-1, c) :: midsA i l
def bytesA : List Atm → List UInt8
  | [] => []
  | .k :: l => 0 :: bytesA l
  | .d c :: l => c :: bytesA l
  | .p _ :: l => bytesA l
/-- the bytes that are made, up to a place -/
def midsTo (P : List (List UInt8)) (D : List Bool) : Nat → List (Int × UInt8)
  | 0 => []
  | p + 1 => midsTo P D p ++ (P.getD p []).map (fun c => (-1, c)) ++ (if D.getD p true = false then [((p : Int), 0)] else [])
end Go.Eng

/-
  Plain facts on changes: two changes carried over each other. No condition.
-/
namespace Go.Eng
open Go
/-- two changes byte by byte, carried over each other; none: they are apart -/
def carA : List Atm → List Atm → Option (List Atm × List Atm)
  | .p b :: xs, ys => (carA xs ys).map fun o => (.p b :: o.1, .k :: o.2)
  | [], .p b :: ys => (carA [] ys).map fun o => (.k :: o.1, .p b :: o.2)
  | .k :: xs, .p b :: ys => (carA (.k :: xs) ys).map fun o => (.k :: o.1, .p b :: o.2)
  | .d c :: xs, .p b :: ys => (carA (.d c :: xs) ys).map fun o => (.k :: o.1, .p b :: o.2)
  | .k :: xs, .k :: ys => (carA xs ys).map fun o => (.k :: o.1, .k :: o.2)
  | .d b :: xs, .k :: ys => (carA xs ys).map fun o => (.d b :: o.1, o.2)
  | .k :: xs, .d b :: ys => (carA xs ys).map fun o => (o.1, .d b :: o.2)
  | .d b :: xs, .d c :: ys => if b = c then carA xs ys else none
  | [], [] => some ([], [])
  | [], .k :: _ => some ([], [])
  | [], .d _ :: _ => some ([], [])
  | .k :: _, [] => some ([], [])
  | .d _ :: _, [] => some ([], [])
termination_by xs ys => xs.length + ys.length
/-- the answer, from here on, with both builders at hand -/
def carT (U V : Bld) (n : Nat) (xs ys : List Atm) : Option (List Stp × List Stp × Nat) := (carA xs ys).map fun o => ((U.run o.1).close.l, (V.run o.2).close.l, n + toA o.1)
/-- what two changes carried over each other come to -/
def carP (a b : List Stp) : Int ⊕ (List Stp × List Stp) := match sizesOf a, sizesOf b with
  | some (from_, _), some (same, _) => if from_ ≠ same then .inl 5 else match carT Bld.start Bld.start 0 (nfOf (gapsOf a)) (nfOf (gapsOf b)) with
    | none => .inl 270
    | some (u, v, n) => if 65536 < n then .inl 3 else .inr (u, v)
  | _, _ => .inl 2
end Go.Eng

/-
  Plain facts on changes: carried over each other they come to one text; one behind the other the same. No condition.
-/
namespace Go.Eng
open Go
/-- the list that a builder makes of bytes -/
def listOf (L : List Atm) : List Stp := (Bld.start.run L).close.l
end Go.Eng

/-
  Plain facts on changes: how much composing and carrying make. No condition.
-/
namespace Go.Eng
open Go
end Go.Eng

/-
  Plain facts on changes: lists that builders make, applied. No condition.
-/
namespace Go.Eng
open Go
def okV (t : List UInt8) : Value := .tuple #[str t, .int .i64 0]
end Go.Eng

/-
  The walks of package edit, a stream's methods: size, now, take. No condition.
-/
namespace Go.Eng
open Go Go.RowKit
theorem Does.gives_mem {P : Program} {w0 : World} {m : Mem} {H : SHeap} {f : FuncId} {args : Array Value} {v : Value} {i : Item} (hm : i ∈ H) (h : ∀ H1, Does P f args w0 m (i :: H1) (Gives v m (i :: H1))) : Does P f args w0 m H (Gives v m H) := by
  intro w hs
  obtain ⟨H1, hp⟩ := hs.at_ hm
  refine (h H1 w (hs.perm hp)).mono ?_
  rintro e w' ⟨v', m', H', he, ⟨rfl, rfl, rfl⟩, hs'⟩
  exact ⟨_, _, _, he, ⟨rfl, rfl, rfl⟩, hs'.perm hp.symm⟩
section
variable {P : Program} {ro : Option Nat} {n : Nat} {w0 : World} {Q : Exit → Act → World → Prop} {r : Env} {ds : List Nat} {m : Mem} {H : SHeap} {ops : Array Oper} {l : List Oper} {d : Nat} {t ty : TypeId} {pos : String} {after : Array Edge}
end
/-- a stream: what is left of a change, in a list of its own -/
structure Strm (a1 : Option Addr) (c1 : Nat) (ar : Option Addr) (pre : List (List Value)) (X : List Stp) : Prop where
  at_ : X ≠ [] → ∃ a0, ar = some a0 ∧ a1 = some (a0.add (pre.length * 3))
  cap : X.length ≤ c1
  ok : ∀ s ∈ X, stpOk s
end Go.Eng
namespace Go.Proofs.YtelgegefmjlimaaDoor
open Go Go.Eng
set_option maxRecDepth 100000
set_option maxHeartbeats 4000000
set_option linter.all false
attribute [local irreducible] WL WC WQ QFun QLoop Does Q1 QRound QAssign Go.Addr.add
/-- what a take leaves of the stream -/
def TakenS (x cr : Nat) (ar : Option Addr) (s : Stp) (n : Nat) (X : List Stp) (m : Mem) (H : SHeap) : Value → Mem → SHeap → Prop := fun v m' H' => v = (takeS s n).v ∧ m' = m ∧ ∃ a2 c2 pre2, Strm a2 c2 ar pre2 (restS s n X) ∧
  H' = .blk x (.cells [.slice a2 (restS s n X).length c2].toArray 121 (0, 0)) :: .row ar cr 39 3 (pre2 ++ (restS s n X).map Stp.cs) :: H
end Go.Proofs.YtelgegefmjlimaaDoor

/-
  The walks of what sheets' methods share: New, Clone, Revision, make. No condition.
-/
namespace Go.Eng
open Go Go.RowKit
section
variable {P : Program} {ro : Option Nat} {n : Nat} {w0 : World} {Q : Exit → Act → World → Prop} {r : Env} {ds : List Nat} {m : Mem} {H : SHeap}
end
/-- a change that a sheet keeps -/
def sentV (hand : Int) (a : Option Addr) (k cap : Nat) (left : Bool) : List Value := [.int .i64 hand, .slice a k cap, .bool left]
end Go.Eng
namespace Go.Proofs.YtelgegefmjlimaaDoor
open Go Go.Eng
set_option maxRecDepth 100000
set_option maxHeartbeats 4000000
set_option linter.all false
attribute [local irreducible] WL WC WQ QFun QLoop Does Q1 QRound QAssign Go.Addr.add
attribute [local irreducible] sizesOf sizesF applyV listOf plainOf applyA
theorem new_any {s : List UInt8} (hs : s.length ≤ 65536) (w0 : World) (m : Mem) (H : SHeap) :
    Does Tryd.prog 19 #[str s] w0 m H (fun v m' H' => m' = m ∧ ∃ b, v = .tuple #[.pointer (some ⟨b, 0, none⟩), .int .i64 0] ∧ H' = .blk b (.cells [str s, str s, .slice none 0 0].toArray 85 (0, 0)) :: H) := by
  refine Does.of_body (args := [str s]) Tryd.func19 rfl Tryd.ntmps19 rfl ?_
  (refine st ?_; intros; rename_i b)
  exact q_fin0 (H0 := .blk b (.cells [str s, str s, .slice none 0 0].toArray 85 (0, 0)) :: H) ⟨rfl, b, rfl, rfl⟩ (hd := zpk)
theorem revision_any {b : Nat} {s1 s2 : List UInt8} {ra : Option Addr} {k cra : Nat} (w0 : World) (m : Mem) (H : SHeap) (hm : Item.blk b (.cells [str s1, str s2, .slice ra k cra].toArray 85 (0, 0)) ∈ H) :
    Does Tryd.prog 21 #[.pointer (some ⟨b, 0, none⟩)] w0 m H (Gives (.int .i64 (k : Int)) m H) := by
  refine Does.gives_mem hm fun H => ?_
  refine Does.of_body (args := [.pointer (some ⟨b, 0, none⟩)]) Tryd.func21 rfl Tryd.ntmps21 rfl ?_
  (try (refine st ?_; intros))
  exact q_fin0 (H0 := .blk b (.cells [str s1, str s2, .slice ra k cra].toArray 85 (0, 0)) :: H) (Gives.mk rfl) (hd := zpk)
end Go.Proofs.YtelgegefmjlimaaDoor

/-
  What a function hands back that makes a change. No condition.
-/
namespace Go.Eng
open Go Go.RowKit
def ListP (T : TypeId) (r : Int ⊕ List Stp) (k : IntKind) (m : Mem) (H : SHeap) : Value → Mem → SHeap → Prop := fun v m' H' => m' = m ∧ match r with
  | .inl e => v = .tuple #[.slice none 0 0, .int k e] ∧ H' = H
  | .inr l => ∃ c cp, v = .tuple #[.slice c l.length cp, .int k 0] ∧ H' = .row c cp T 3 (l.map Stp.cs) :: H
end Go.Eng

/-
  The walks of package runes and of its reference, first part: a rune's width, the piece that is read at a place. No condition.
-/
namespace Go.Proofs.YtelgegefmjlimaaDoor
open Go Go.Eng
set_option maxRecDepth 100000
set_option maxHeartbeats 4000000
set_option linter.all false
attribute [local irreducible] WL WC WQ QFun QLoop Does Q1 QRound QAssign Go.Addr.add
/-- runes.Width, of whatever number -/
def widthS (r : Int) : Int := if r ≠ 65533 ∧ fmb (rn r) = [239, 191, 189] then 0 else (wd (rn r) : Int)
theorem width_any (r : Int) (w0 : World) (m : Mem) (H : SHeap) : Does Tryd.prog 96 #[.int .i32 r] w0 m H (Gives (.int .i64 (widthS r)) m H) := by
  refine Does.of_body (args := [.int .i32 r]) Tryd.func96 rfl Tryd.ntmps96 rfl ?_
  (try (refine st ?_; intros))
  (first | refine c_ways (fun h1 => ?_) (fun h1 => ?_) | refine c_nways (fun h1 => ?_) (fun h1 => ?_) | refine w_gways (fun h1 => ?_) (fun h1 => ?_) | refine w_gnways (fun h1 => ?_) (fun h1 => ?_))
  · (try (refine st ?_; intros))
    (first | refine c_ways (fun h2 => ?_) (fun h2 => ?_) | refine c_nways (fun h2 => ?_) (fun h2 => ?_) | refine w_gways (fun h2 => ?_) (fun h2 => ?_) | refine w_gnways (fun h2 => ?_) (fun h2 => ?_))
    · (try (refine st ?_; intros))
      rw [encode_eq] at h2
      exact WQ.fin _ (res_tmp rfl rfl) (.mk (by rw [widthS, if_pos ⟨h1, h2⟩]))
    · (try (refine st ?_; intros))
      rw [encode_eq] at h2 ⊢
      exact WQ.fin _ (res_tmp rfl rfl) (.mk (by rw [widthS, if_neg (fun h => h2 h.2), fmb_length]))
  · (try (refine st ?_; intros))
    rw [encode_eq]
    exact WQ.fin _ (res_tmp rfl rfl) (.mk (by rw [widthS, if_neg (fun h => h.1 h1), fmb_length]))

theorem widthS_ok {c : Nat} (h : okr c) : widthS (c : Int) = (wd c : Int) := by
  unfold widthS
  rw [rn_nat h, if_neg]
  rintro ⟨h1, h2⟩
  apply h1
  have h3 : wd c = 3 := by rw [← fmb_length c, h2]; rfl
  have hc : ¬ c < 128 ∧ ¬ c < 2048 ∧ c < 65536 := by
    unfold wd at h3
    split at h3
    · cases h3
    · split at h3
      · cases h3
      · split at h3
        · omega
        · cases h3
  have h4 := nb_fmb c 0 (by omega) (by omega)
  have h5 := nb_fmb c 1 (by omega) (by omega)
  have h6 := nb_fmb c 2 (by omega) (by omega)
  rw [h2] at h4 h5 h6
  unfold fm at h4 h5 h6
  rw [if_neg hc.1, if_neg hc.2.1, if_pos hc.2.2] at h4 h5 h6
  simp [nb, gb] at h4 h5 h6
  omega
theorem fmb_lost : fmb 65533 = [239, 191, 189] := by decide
/-- what the text bears there is the form of U+FFFD just if it is decoded as one of three bytes -/
theorem lost_iff (l : List UInt8) (hl : 0 < l.length) (h : (dl l).1 = 65533) : (¬ l.length < 3 ∧ l.take 3 = [239, 191, 189]) ↔ ¬ dl l = (65533, 1) := by
  have hw : wd 65533 = 3 := by decide
  constructor
  · rintro ⟨h1, h2⟩ h3
    have := dl_of_begins (l := l) (c := 65533) (by right; decide) ((begins_iff l 65533 (by decide)).2 (by rw [hw, h2, fmb_lost]))
    rw [h3, hw] at this
    cases this
  · intro h3
    rcases dl_cases l hl with ⟨_, _, hb⟩ | ⟨he, _⟩
    · rw [h] at hb
      have := (begins_iff l 65533 (by decide)).1 hb
      rw [hw, fmb_lost] at this
      have hb1 := hb.1
      rw [hw] at hb1
      exact ⟨by omega, this⟩
    · exact absurd he h3
theorem readP_some {l : List UInt8} {k : Nat} (hk : k < l.length) (h : ¬ dl (l.drop k) = (65533, 1)) : okr (dl (l.drop k)).1 ∧ widthS ((dl (l.drop k)).1 : Int) = ((dl (l.drop k)).2 : Int) := by
  rcases dl_cases (l.drop k) (by simp; omega) with ⟨h1, h2, _⟩ | ⟨he, _⟩
  · exact ⟨h1, by rw [widthS_ok h1, h2]⟩
  · exact absurd he h

theorem take_drop_swap (l : List UInt8) (k j : Nat) : (l.take (k + j)).drop k = (l.drop k).take j := by
  rw [List.drop_take]; congr 1; omega
theorem read_any (l : List UInt8) (k : Nat) (hl : l.length ≤ 9223372036854775804) (hk : k < l.length) (w0 : World) (m : Mem) (H : SHeap) :
    Does Tryd.prog 84 #[str l, .int .i64 (k : Int)] w0 m H (Gives (readP l k).v m H) := by
  have hlen : (l.drop k).length = l.length - k := List.length_drop
  have hli := lost_iff (l.drop k) (by omega)
  have hso := fun h => (readP_some hk h).2
  rw [hlen] at hli
  refine Does.of_body (args := [str l, .int .i64 (k : Int)]) Tryd.func84 rfl Tryd.ntmps84 rfl ?_
  (try (refine st ?_; intros))
  apply WC.loop1
  (try (refine st ?_; intros))
  refine WL.rename 15 (u := .int .i32 ((dl (l.drop k)).1 : Int)) rfl rfl ?_
  refine WL.rename 6 (u := .int .i32 ((dl (l.drop k)).1 : Int)) rfl rfl ?_
  refine w_callF Tryd.func96 ?_ (hs := width_any _ _ _ _)
  rintro _ _ _ ⟨rfl, rfl, rfl⟩
  by_cases hA : dl (l.drop k) = (65533, 1)
  · have h1 : (dl (l.drop k)).1 = 65533 := by rw [hA]
    (try (refine st ?_; intros))
    (first | refine c_ways (fun h2 => ?_) (fun h2 => ?_) | refine c_nways (fun h2 => ?_) (fun h2 => ?_) | refine w_gways (fun h2 => ?_) (fun h2 => ?_) | refine w_gnways (fun h2 => ?_) (fun h2 => ?_))
    · (try (refine st ?_; intros))
      (refine q_fin0 ?_)
      refine Gives.mk ?_
      unfold readP; rw [if_pos hA]; rfl
    · (try (refine st ?_; intros))
      (first | refine c_ways (fun h3 => ?_) (fun h3 => ?_) | refine c_nways (fun h3 => ?_) (fun h3 => ?_) | refine w_gways (fun h3 => ?_) (fun h3 => ?_) | refine w_gnways (fun h3 => ?_) (fun h3 => ?_))
      · (try (refine st ?_; intros))
        (refine q_fin0 ?_)
        refine Gives.mk ?_
        unfold readP; rw [if_pos hA]; rfl
      · exfalso
        rw [take_drop_swap] at h3
        exact (hli h1).1 ⟨by omega, h3⟩ hA
  · have hw := hso hA
    (try (refine st ?_; intros))
    (first | refine c_ways (fun h2 => ?_) (fun h2 => ?_) | refine c_nways (fun h2 => ?_) (fun h2 => ?_) | refine w_gways (fun h2 => ?_) (fun h2 => ?_) | refine w_gnways (fun h2 => ?_) (fun h2 => ?_))
    · have h1 : (dl (l.drop k)).1 = 65533 := by omega
      obtain ⟨h4, h5⟩ := (hli h1).2 hA
      (try (refine st ?_; intros))
      (first | refine c_ways (fun h3 => ?_) (fun h3 => ?_) | refine c_nways (fun h3 => ?_) (fun h3 => ?_) | refine w_gways (fun h3 => ?_) (fun h3 => ?_) | refine w_gnways (fun h3 => ?_) (fun h3 => ?_))
      · exfalso
        rw [take_drop_swap] at h3
        exact h3 h5
      · (try (refine st ?_; intros))
        (refine q_fin0 ?_)
        refine Gives.mk ?_
        unfold readP; rw [if_neg hA, hw]; rfl
    · (try (refine st ?_; intros))
      (refine q_fin0 ?_)
      refine Gives.mk ?_
      unfold readP; rw [if_neg hA, hw]; rfl
end Go.Proofs.YtelgegefmjlimaaDoor

/-
  Plain facts on the pieces of a text, second part: pieces lie in step with the forms; the last piece. No condition.
-/
set_option linter.all false
namespace Go.Eng
open Go
set_option linter.all false
theorem fm_lead {c : Nat} (hc : c ≤ 1114111) : (fm c).getD 0 0 < 128 ∨ (192 ≤ (fm c).getD 0 0) := by
  unfold fm
  split
  · left; simpa
  · split
    · right; simp
    · split
      · right; simp; omega
      · right; simp; omega
theorem fm_cont {c i : Nat} (h1 : 1 ≤ i) (h2 : i < wd c) : 128 ≤ (fm c).getD i 0 ∧ (fm c).getD i 0 < 192 := by
  unfold fm
  unfold wd at h2
  split at h2
  · omega
  · rename_i h3
    rw [if_neg h3]
    split at h2
    · rename_i h4
      rw [if_pos h4]
      have : i = 1 := by omega
      subst this
      simp; omega
    · rename_i h4
      rw [if_neg h4]
      split at h2
      · rename_i h5
        rw [if_pos h5]
        obtain rfl | rfl : i = 1 ∨ i = 2 := by omega
        · simp; omega
        · simp; omega
      · rename_i h5
        rw [if_neg h5]
        obtain rfl | rfl | rfl : i = 1 ∨ i = 2 ∨ i = 3 := by omega
        · simp; omega
        · simp; omega
        · simp; omega
theorem head_lead {l : List UInt8} (hl : 0 < l.length) (h : ¬ dl l = (65533, 1)) : gb l 0 < 128 ∨ 192 ≤ gb l 0 := by
  rcases dl_cases l hl with ⟨h1, h2, h3⟩ | ⟨h1, _⟩
  · have := h3.2 0 (wd_pos _).1
    rw [show gb l 0 = nb l 0 from rfl, this]
    exact fm_lead (okr_le h1)
  · exact absurd h1 h
theorem tail_cont {l : List UInt8} (hl : 0 < l.length) {i : Nat} (h1 : 1 ≤ i) (h2 : i < (dl l).2) : 128 ≤ gb l i ∧ gb l i < 192 := by
  rcases dl_cases l hl with ⟨g1, g2, g3⟩ | ⟨g1, _⟩
  · rw [g2] at h2
    have := g3.2 i h2
    rw [show gb l i = nb l i from rfl, this]
    exact fm_cont h1 h2
  · rw [g1] at h2; simp at h2; omega
/-- a place where a piece begins -/
def Reach (l : List UInt8) (j : Nat) : Prop := ∃ pre, pieces l = pre ++ from_ l j
theorem Reach.zero (l : List UInt8) : Reach l 0 := ⟨[], rfl⟩
theorem Reach.step {l : List UInt8} {j : Nat} (h : Reach l j) (hj : j < l.length) : Reach l (j + (readP l j).w) := by
  obtain ⟨pre, h⟩ := h
  exact ⟨pre ++ [readP l j], by rw [h, from_cons hj]; simp⟩
theorem reach_lead {l : List UInt8} {j : Nat} (hj : j < l.length) (hlead : gb l j < 128 ∨ 192 ≤ gb l j) : ∀ d i, j - i ≤ d → i ≤ j → Reach l i → Reach l j
  | 0, i, hd, hi, h => by
    have : i = j := by omega
    subst this; exact h
  | d + 1, i, hd, hi, h => by
    by_cases e : i = j
    · subst e; exact h
    · have hil : i < l.length := by omega
      have hw := readP_w hil
      have h2 : i + (readP l i).w ≤ j := by
        rw [readP_w_eq]
        rcases Nat.lt_or_ge j (i + (dl (l.drop i)).2) with hlt | hge
        · exfalso
          have := tail_cont (l := l.drop i) (by simp; omega) (i := j - i) (by omega) (by omega)
          rw [show gb (l.drop i) (j - i) = gb l (i + (j - i)) from nb_drop l i (j - i), show i + (j - i) = j by omega] at this
          omega
        · exact hge
      exact reach_lead hj hlead d _ (by omega) h2 (h.step hil)
/-- what begins whole at a place begins a piece -/
theorem reach_whole {l : List UInt8} {j : Nat} (hj : j < l.length) (h : (readP l j).b = false) : Reach l j := by
  have h1 : ¬ dl (l.drop j) = (65533, 1) := by
    intro h2
    simp [readP, h2] at h
  have := head_lead (l := l.drop j) (by simp; omega) h1
  rw [show gb (l.drop j) 0 = gb l (j + 0) from nb_drop l j 0] at this
  exact reach_lead hj this j 0 (by omega) (by omega) (Reach.zero l)
theorem readP_b {l : List UInt8} {j : Nat} (h : (readP l j).b = true) : (readP l j).w = 1 := by
  unfold readP at h ⊢
  split
  · rfl
  · rename_i h2
    rw [if_neg h2] at h
    cases h
theorem exists_last (l : List UInt8) : ∀ d i, l.length - i ≤ d → i < l.length → Reach l i → ∃ j, Reach l j ∧ j < l.length ∧ j + (readP l j).w = l.length
  | 0, i, hd, hi, _ => by omega
  | d + 1, i, hd, hi, h => by
    have hw := readP_w hi
    by_cases e : i + (readP l i).w = l.length
    · exact ⟨i, h, hi, e⟩
    · exact exists_last l d _ (by omega) (by omega) (h.step hi)
def lastP (l : List UInt8) : Pc := (pieces l).getLastD ⟨0, 0, 0, false⟩
theorem lastP_of {l : List UInt8} {j : Nat} (h : Reach l j) (hj : j < l.length) (he : j + (readP l j).w = l.length) : lastP l = readP l j := by
  obtain ⟨pre, h⟩ := h
  rw [from_cons hj, he, from_nil (by omega)] at h
  simp [lastP, h]
theorem lastP_whole {l : List UInt8} {w : Nat} (hw : w ≤ l.length) (h1 : 1 ≤ w) (hb : (readP l (l.length - w)).b = false) (he : (readP l (l.length - w)).w = w) : lastP l = readP l (l.length - w) :=
  lastP_of (reach_whole (by omega) hb) (by omega) (by omega)
theorem lastP_one {l : List UInt8} (hl : 0 < l.length) (h : ∀ w, 2 ≤ w → w ≤ 4 → w ≤ l.length → ¬ ((readP l (l.length - w)).b = false ∧ (readP l (l.length - w)).w = w)) : lastP l = readP l (l.length - 1) := by
  obtain ⟨j, h1, h2, h3⟩ := exists_last l l.length 0 (by omega) hl (Reach.zero l)
  have hw := readP_w h2
  rw [lastP_of h1 h2 h3]
  by_cases e : (readP l j).w = 1
  · rw [show l.length - 1 = j by omega]
  · exfalso
    refine h (readP l j).w (by omega) (by omega) (by omega) ?_
    rw [show l.length - (readP l j).w = j by omega]
    refine ⟨?_, rfl⟩
    cases hb : (readP l j).b with
    | false => rfl
    | true => exact absurd (readP_b hb) e
end Go.Eng

/-
  Plain facts on the pieces of a text, third part: which places are boundaries, and what stands around a place. No condition.
-/
set_option linter.all false
namespace Go.Eng
open Go
set_option linter.all false
theorem from_split (l : List UInt8) : ∀ d k, l.length - k ≤ d → ∀ pre p post, from_ l k = pre ++ p :: post → k ≤ p.at_ ∧ p.at_ < l.length ∧ p = readP l p.at_ ∧ p :: post = from_ l p.at_ ∧ (∀ q ∈ pre, q.at_ < p.at_)
  | 0, k, hd, pre, p, post, h => by
    rw [from_nil (by omega)] at h; simp at h
  | d + 1, k, hd, pre, p, post, h => by
    by_cases hk : k < l.length
    · have hw := readP_w hk
      have h' := h
      rw [from_cons hk] at h
      cases pre with
      | nil =>
        simp only [List.nil_append, List.cons.injEq] at h
        obtain ⟨rfl, h2⟩ := h
        have ha := readP_at l k
        refine ⟨by omega, by omega, by rw [ha], by rw [ha, from_cons hk, h2], by simp⟩
      | cons q pre =>
        simp only [List.cons_append, List.cons.injEq] at h
        obtain ⟨rfl, h2⟩ := h
        obtain ⟨g1, g2, g3, g4, g5⟩ := from_split l d _ (by omega) pre p post h2
        refine ⟨by omega, g2, g3, g4, fun q hq => ?_⟩
        rcases List.mem_cons.1 hq with rfl | hq
        · rw [readP_at]; omega
        · exact g5 q hq
    · rw [from_nil hk] at h; simp at h
theorem pieces_split {l : List UInt8} {pre post : List Pc} {p : Pc} (h : pieces l = pre ++ p :: post) : p.at_ < l.length ∧ p = readP l p.at_ ∧ p :: post = from_ l p.at_ ∧ (∀ q ∈ pre, q.at_ < p.at_) :=
  (from_split l l.length 0 (by omega) pre p post h).2
theorem reach_of_mem {l : List UInt8} {p : Pc} (h : p ∈ pieces l) : Reach l p.at_ ∧ p.at_ < l.length ∧ p = readP l p.at_ := by
  obtain ⟨pre, post, e⟩ := List.append_of_mem h
  obtain ⟨h1, h2, h3, _⟩ := pieces_split e
  exact ⟨⟨pre, by rw [e, h3]⟩, h1, h2⟩
theorem reach_mem {l : List UInt8} {k : Nat} (h : Reach l k) (hk : k < l.length) : readP l k ∈ pieces l := by
  obtain ⟨pre, e⟩ := h
  rw [e, from_cons hk]; simp
/-- what lies ahead of a place where a piece begins, and what from it on -/
theorem reach_parts {l : List UInt8} {k : Nat} (h : Reach l k) : ∃ pre, pieces l = pre ++ from_ l k ∧ (∀ q ∈ pre, q.at_ < k ∨ l.length ≤ k) ∧ (∀ q ∈ from_ l k, k ≤ q.at_) := by
  obtain ⟨pre, e⟩ := h
  refine ⟨pre, e, fun q hq => ?_, fun q hq => ?_⟩
  · by_cases hk : k < l.length
    · rw [from_cons hk] at e
      have := (pieces_split e).2.2.2 q hq
      rw [readP_at] at this
      exact .inl this
    · exact .inr (by omega)
  · obtain ⟨a, b, e2⟩ := List.append_of_mem hq
    exact (from_split l l.length k (by omega) a q b e2).1
/-- a place within a form: where the form begins -/
def Within (l : List UInt8) (at_ i : Nat) : Prop := i < at_ ∧ at_ < i + (readP l i).w ∧ (readP l i).b = false
end Go.Eng

