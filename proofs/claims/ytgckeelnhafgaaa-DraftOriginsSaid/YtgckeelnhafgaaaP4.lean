/-
  Parts of a walk, joined: EngS EngW EngX EngZE RT2 RT3 RT7 RT4 RT8 RT9 RT16 CT1 C1 C2 R1 R2a DT1 DT2 DT3. No condition.
-/
import Derived.Test.YtgckeelnhafgaaaP3
import Derived.Test.YtgckeelnhafgaaaP2
import Derived.Test.YtgckeelnhafgaaaProg
set_option linter.all false
/-
  A walk's engine, eighteenth part: a region that draws its order, where some operations change the heap: what is calm is done first, what acts is done in every order that there is. No condition.
-/
set_option linter.all false
namespace Go.Eng
open Go Go.RowKit
/-- what an operation owes that may change the heap -/
def QE (w0 : World) (d : Nat) (ds : List Dfr) (S : SHeap) (m : Mem) (K : Value → Mem → SHeap → SHeap → Prop) : Exit → Act → World → Prop
  | .normal, a, w => ∃ v m' B U, a.tmps[d]? = some v ∧ a.defers = marks ds ∧ m.le m' ∧ Sat w0 m' (S ++ B ++ U) w ∧ K v m' (S ++ B) U
  | _, _, _ => False
/-- the same of an operation without an answer: a store -/
def QN (w0 : World) (ds : List Dfr) (S : SHeap) (m : Mem) (K : Mem → SHeap → SHeap → Prop) : Exit → Act → World → Prop
  | .normal, a, w => ∃ m' B U, a.defers = marks ds ∧ m.le m' ∧ Sat w0 m' (S ++ B ++ U) w ∧ K m' (S ++ B) U
  | _, _, _ => False
def readyV (V : Nat) (o : Oper) : Prop := ∀ e ∈ o.after, bind1 e = true → V.testBit e.on = true
section
variable {P : Program} {ro : Option Nat} {n : Nat} {w0 : World} {Q : Exit → Act → World → Prop} {r : Env} {ds : List Dfr} {m : Mem} {H : SHeap}
theorem WQ.acted {d : Nat} {S B U : SHeap} {m0 : Mem} {K : Value → Mem → SHeap → SHeap → Prop} {v : Value} (hv : r.get d = some v) (hm : m0.le m) (hh : ∀ w, Sat w0 m H w → Sat w0 m (S ++ B ++ U) w) (hK : K v m (S ++ B) U) :
    WQ n w0 (QE w0 d ds S m0 K) .normal r ds m H := fun _ w ho hs => ⟨v, m, B, U, ho.at_ _ _ hv, rfl, hm, hh w hs, hK⟩
theorem WQ.stored {S B U : SHeap} {m0 : Mem} {K : Mem → SHeap → SHeap → Prop} (hm : m0.le m) (hh : ∀ w, Sat w0 m H w → Sat w0 m (S ++ B ++ U) w) (hK : K m (S ++ B) U) :
    WQ n w0 (QN w0 ds S m0 K) .normal r ds m H := fun _ w _ hs => ⟨m, B, U, rfl, hm, hh w hs, hK⟩
/-- what is left of a region: V tells which operations are done, or calm; S is what none of them changes -/
def WE (P : Program) (ro : Option Nat) (n : Nat) (w0 : World) (l : List Oper) (g : Nat) (ds : List Dfr) (K : Env → Mem → SHeap → SHeap → Prop) : Nat → Nat → Env → Mem → SHeap → SHeap → Prop
  | 0, _, _, _, _, _ => False
  | k + 1, V, r, m, S, U =>
    ((∀ i, i < g → V.testBit i = true) ∧ K r m S U) ∨
    (∃ i o d v, i < g ∧ l[i]? = some o ∧ V.testBit i = false ∧ readyV V o ∧ o.dst = some d ∧ (∀ c, o.op ≠ .defer c) ∧
      (∀ m' F, m.le m' → WL P ro n w0 l.toArray (Q1 w0 d v ds m' (S ++ F)) [o] (Env.sel (o.looksAt l.toArray) r) ds m' (S ++ F)) ∧
      WE P ro n w0 l g ds K k (V ||| 1 <<< i) ((d, v) :: r) m S U) ∨
    ((∃ i, i < g ∧ V.testBit i = false) ∧ ∀ i o, i < g → l[i]? = some o → V.testBit i = false → readyV V o → (∃ d, o.dst = some d ∧ (∀ c, o.op ≠ .defer c) ∧
      WL P ro n w0 l.toArray (QE w0 d ds S m fun v m' S' U' => WE P ro n w0 l g ds K k (V ||| 1 <<< i) ((d, v) :: r) m' S' U') [o] (Env.sel (o.looksAt l.toArray) r) ds m (S ++ U)) ∨
      (o.dst = none ∧ (∀ c, o.op ≠ .defer c) ∧ WL P ro n w0 l.toArray (QN w0 ds S m fun m' S' U' => WE P ro n w0 l g ds K k (V ||| 1 <<< i) r m' S' U') [o] (Env.sel (o.looksAt l.toArray) r) ds m (S ++ U)))
theorem bit_set (V i j : Nat) : (V ||| 1 <<< i).testBit j = (V.testBit j || decide (i = j)) := by
  rw [Nat.testBit_or, Nat.one_shiftLeft, Nat.testBit_two_pow]
theorem bit_keep {V i j : Nat} (h : V.testBit j = true) : (V ||| 1 <<< i).testBit j = true := by rw [bit_set, h]; rfl
theorem bit_self (V i : Nat) : (V ||| 1 <<< i).testBit i = true := by rw [bit_set]; simp
theorem bit_old {V i j : Nat} (h : (V ||| 1 <<< i).testBit j = true) (hne : j ≠ i) : V.testBit j = true := by
  rw [bit_set] at h
  have : decide (i = j) = false := by simp; exact fun e => hne e.symm
  simpa [this] using h
theorem mask_in {l : List Oper} {g : Nat} {M : List Nat} (ok : DrawOk l g M) {p : Nat → Prop} {b : Nat} (hb : b ≤ l.length) (hc : ∀ j o, j < b → l[j]? = some o → p j → ∀ e ∈ o.after, bind1 e = true → p e.on) :
    ∀ j o, j < b → l[j]? = some o → (∀ e ∈ o.after, bind1 e = true → p e.on) → ∀ i, (M.getD j 0).testBit i = true → p i := by
  intro j
  induction j using Nat.strongRecOn with
  | _ j ih =>
    intro o hjb ho hw i hi
    rw [← ok.sub j o ho, Nat.testBit_and, Bool.and_eq_true] at hi
    rcases mask_bits M o.after.toList 0 i hi.2 with h | ⟨e, he, hbd, h⟩
    · simp at h
    · have he' : e ∈ o.after := by simpa using he
      have hon := hw e he' hbd
      rcases h with rfl | h
      · exact hon
      · have hlt := ok.down j o ho e he' hbd
        have hl : e.on < l.length := by omega
        exact ih e.on hlt l[e.on] (by omega) (List.getElem?_eq_getElem hl) (hc e.on _ (by omega) (List.getElem?_eq_getElem hl) hon) i h
/-- from what an operation owes, whatever comes behind it -/
theorem wpOp_of_post {ops : Array Oper} {i : Nat} {o : Oper} {d : Nat} {tmps : Array Value} {w : World} {Qx : Exit → Act → World → Prop} {K : Act → World → Prop} (hi : ops[i]? = some o) (hd : o.dst = some d) (hnd : ∀ c, o.op ≠ .defer c)
    (hdf : ∀ a w, Qx .normal a w → a.defers = marks ds) (hbad : ∀ e a w, Qx e a w → e = .normal)
    (h : wpListIn (FW ro) 0 P ops Qx [o] ⟨tmps, marks ds⟩ w) (hK : ∀ v0 w', Qx .normal ⟨tmps.setIfInBounds d v0, marks ds⟩ w' → K ⟨tmps.setIfInBounds d v0, marks ds⟩ w') : wpOpIn (FW ro) 0 P ops Q i K ⟨tmps, marks ds⟩ w := by
  have key : ∀ v0 w', Qx .normal ((Act.mk tmps (marks ds)).put o.dst v0) w' → K ((Act.mk tmps (marks ds)).put o.dst v0) w' := by
    intro v0 w' hq
    rw [hd] at hq ⊢
    exact hK v0 w' hq
  unfold wpOpIn
  rw [hi]
  unfold wpListIn at h
  simp only
  split
  · rename_i hw
    rw [if_pos hw] at h
    refine ⟨h.1, ?_⟩
    have h2 := h.2
    rw [semAt_exec (FW ro).round _ _ hnd] at h2 ⊢
    generalize hr : (execOp (Act.mk tmps (marks ds)).eval o).run P w = res at *
    cases res with
    | ok x w' =>
      cases x <;> simp only [Oper.uponIn] at h2 ⊢
      case value v0 => exact key _ _ h2
      case skip => exact key _ _ h2
      case defer df =>
        exfalso
        have h4 := congrArg List.length (hdf _ _ h2)
        rw [hd] at h4
        simp [Act.put] at h4
      case enter f args => exact ⟨h2.1, CallsIn.mono h2.2 fun e w'' he => by
        cases e with
        | returned v0 => exact key _ _ he
        | panicked chain => exact absurd (hbad _ _ _ he) (by simp)
        | outgrown => obtain ⟨a, b, hh⟩ := he; exact absurd (hbad _ _ _ hh) (by simp)⟩
      case row rw' args => exact ⟨h2.1, RowsIn.mono h2.2 fun v0 w'' he => key _ _ he⟩
      case round l f tm asg bd => exact ⟨h2.1, RoundIn.mono h2.2 fun e w'' he => by
        cases e with
        | returned v0 => exact key _ _ he
        | panicked chain => exact absurd (hbad _ _ _ he) (by simp)
        | outgrown => obtain ⟨a, b, hh⟩ := he; exact absurd (hbad _ _ _ hh) (by simp)⟩
    | halt x w' =>
      cases x <;> simp only [Oper.uponIn] at h2 ⊢
      all_goals first | exact h2.elim | exact absurd (hbad _ _ _ h2) (by simp) | exact absurd (hbad _ _ _ h2.2) (by simp) | skip
  · rename_i hw
    rw [if_neg hw] at h
    exact ⟨h.1, key _ _ h.2⟩
/-- the same without an answer -/
theorem wpOp_of_postN {ops : Array Oper} {i : Nat} {o : Oper} {tmps : Array Value} {w : World} {Qx : Exit → Act → World → Prop} {K : Act → World → Prop} (hi : ops[i]? = some o) (hd : o.dst = none) (hnd : ∀ c, o.op ≠ .defer c)
    (hdf : ∀ a w, Qx .normal a w → a.defers = marks ds) (hbad : ∀ e a w, Qx e a w → e = .normal)
    (h : wpListIn (FW ro) 0 P ops Qx [o] ⟨tmps, marks ds⟩ w) (hK : ∀ w', Qx .normal ⟨tmps, marks ds⟩ w' → K ⟨tmps, marks ds⟩ w') : wpOpIn (FW ro) 0 P ops Q i K ⟨tmps, marks ds⟩ w := by
  have key : ∀ v0 w', Qx .normal ((Act.mk tmps (marks ds)).put o.dst v0) w' → K ((Act.mk tmps (marks ds)).put o.dst v0) w' := by
    intro v0 w' hq
    rw [hd] at hq ⊢
    exact hK w' hq
  unfold wpOpIn
  rw [hi]
  unfold wpListIn at h
  simp only
  split
  · rename_i hw
    rw [if_pos hw] at h
    refine ⟨h.1, ?_⟩
    have h2 := h.2
    rw [semAt_exec (FW ro).round _ _ hnd] at h2 ⊢
    generalize hr : (execOp (Act.mk tmps (marks ds)).eval o).run P w = res at *
    cases res with
    | ok x w' =>
      cases x <;> simp only [Oper.uponIn] at h2 ⊢
      case value v0 => exact key _ _ h2
      case skip => exact key _ _ h2
      case defer df =>
        exfalso
        have h4 := congrArg List.length (hdf _ _ h2)
        rw [hd] at h4
        simp [Act.put] at h4
      case enter f args => exact ⟨h2.1, CallsIn.mono h2.2 fun e w'' he => by
        cases e with
        | returned v0 => exact key _ _ he
        | panicked chain => exact absurd (hbad _ _ _ he) (by simp)
        | outgrown => obtain ⟨a, b, hh⟩ := he; exact absurd (hbad _ _ _ hh) (by simp)⟩
      case row rw' args => exact ⟨h2.1, RowsIn.mono h2.2 fun v0 w'' he => key _ _ he⟩
      case round l f tm asg bd => exact ⟨h2.1, RoundIn.mono h2.2 fun e w'' he => by
        cases e with
        | returned v0 => exact key _ _ he
        | panicked chain => exact absurd (hbad _ _ _ he) (by simp)
        | outgrown => obtain ⟨a, b, hh⟩ := he; exact absurd (hbad _ _ _ hh) (by simp)⟩
    | halt x w' =>
      cases x <;> simp only [Oper.uponIn] at h2 ⊢
      all_goals first | exact h2.elim | exact absurd (hbad _ _ _ h2) (by simp) | exact absurd (hbad _ _ _ h2.2) (by simp) | skip
  · rename_i hw
    rw [if_neg hw] at h
    exact ⟨h.1, key _ _ h.2⟩
theorem count_set {l : List Oper} {listed : Array Bool} {i : Nat} (hs : listed.size = l.length) (hil : i < l.length) (hnl : listed.getD i false = false) :
    ((List.range l.length).filter fun k => !(listed.setIfInBounds i true).getD k false).length < ((List.range l.length).filter fun k => !listed.getD k false).length := by
  have hsub : List.Sublist ((List.range l.length).filter fun k => !(listed.setIfInBounds i true).getD k false) (((List.range l.length).filter fun k => !listed.getD k false).erase i) := by
    have hnd : ((List.range l.length).filter fun k => !listed.getD k false).Nodup := List.Pairwise.filter _ List.nodup_range
    rw [hnd.erase_eq_filter, List.filter_filter]
    refine sub_of_eq ?_
    apply List.filter_congr
    intro k hk
    simp only [Array.getD_eq_getD_getElem?]
    by_cases hik : i = k
    · subst hik; simp [show i < listed.size by omega]
    · rw [Array.getElem?_setIfInBounds_ne hik]; simp [Ne.symm hik]
  have hmem : i ∈ (List.range l.length).filter fun k => !listed.getD k false := by simp only [List.mem_filter, List.mem_range]; exact ⟨hil, by rw [hnl]; rfl⟩
  have h5 := hsub.length_le
  rw [List.length_erase_of_mem hmem] at h5
  have := List.length_pos_of_mem hmem
  omega
theorem listed_set {listed : Array Bool} {i j : Nat} (h : (listed.setIfInBounds i true).getD j false = true) (hne : j ≠ i) : listed.getD j false = true := by
  simp only [Array.getD_eq_getD_getElem?] at h ⊢
  rwa [Array.getElem?_setIfInBounds_ne (fun e => hne e.symm)] at h
theorem listed_keep {listed : Array Bool} {i j : Nat} (h : listed.getD j false = true) : (listed.setIfInBounds i true).getD j false = true := by
  simp only [Array.getD_eq_getD_getElem?] at h ⊢
  by_cases hij : i = j
  · subst hij
    by_cases hlt : i < listed.size
    · simp [hlt]
    · simp [Array.getElem?_eq_none (Nat.le_of_not_lt hlt)] at h
  · rwa [Array.getElem?_setIfInBounds_ne hij]
structure DInv (P : Program) (ro : Option Nat) (n : Nat) (w0 : World) (l : List Oper) (g : Nat) (M : List Nat) (ds : List Dfr) (S : SHeap) (r0 : Env) (V : Nat) (r : Env) (m : Mem) (val : Nat → Value) (listed : Array Bool) (tmps : Array Value) : Prop where
  env : ∀ t u, r.get t = some u → (∃ j o, j < g ∧ V.testBit j = true ∧ l[j]? = some o ∧ o.dst = some t ∧ val j = u) ∨ (r0.get t = some u ∧ ∀ j o, j < g → V.testBit j = true → l[j]? = some o → o.dst ≠ some t)
  vclosed : ∀ j o, j < g → l[j]? = some o → V.testBit j = true → readyV V o
  rcd : ∀ i o, i < g → l[i]? = some o → V.testBit i = true → listed.getD i false = false → ∃ d ri, o.dst = some d ∧ (∀ c, o.op ≠ .defer c) ∧
    (∀ t ∈ o.looksAt l.toArray, ∀ u, ri.get t = some u → (∃ j oj, j < g ∧ l[j]? = some oj ∧ oj.dst = some t ∧ val j = u ∧ ∃ e ∈ o.after, bind1 e = true ∧ e.on = j) ∨ (r0.get t = some u ∧ ∀ j oj, j < g → l[j]? = some oj → oj.dst = some t → (M.getD j 0).testBit i = true)) ∧
    ∀ m' F, m.le m' → WL P ro n w0 l.toArray (Q1 w0 d (val i) ds m' (S ++ F)) [o] (Env.sel (o.looksAt l.toArray) ri) ds m' (S ++ F)
  size : listed.size = l.length
  closed : Closed l listed
  sub : ∀ j, j < g → listed.getD j false = true → V.testBit j = true
  tail : ∀ j, g ≤ j → j < l.length → listed.getD j false = false
  tsize : tmps.size = n
  done : ∀ j o d, j < g → listed.getD j false = true → l[j]? = some o → o.dst = some d → tmps[d]? = some (val j)
  old : ∀ t u, r0.get t = some u → (∀ j o, j < g → listed.getD j false = true → l[j]? = some o → o.dst ≠ some t) → tmps[t]? = some u
section sound
variable {l : List Oper} {g : Nat} {M : List Nat} {S U : SHeap} {r0 : Env} {V : Nat} {val : Nat → Value} {listed : Array Bool} {tmps : Array Value} {w : World}
theorem DInv.vmask (ok : DrawOk l g M) (h : DInv P ro n w0 l g M ds S r0 V r m val listed tmps) {j i : Nat} {o : Oper} (hj : j < g) (ho : l[j]? = some o) (hr : readyV V o) (hb : (M.getD j 0).testBit i = true) : V.testBit i = true :=
  mask_in ok ok.le (p := fun j => V.testBit j = true) (fun j o hj ho hp => h.vclosed j o hj ho hp) j o hj ho hr i hb
/-- what is drawn and already calm -/
theorem DInv.deferred (ok : DrawOk l g M) (h : DInv P ro n w0 l g M ds S r0 V r m val listed tmps) (hsat : Sat w0 m (S ++ U) w) {i : Nat} {o : Oper} (hi : i < g) (ho : l[i]? = some o) (hV : V.testBit i = true) (hnl : listed.getD i false = false)
    (hw : ∀ e ∈ o.after, bind1 e = true → listed.getD e.on false = true) {K : Act → World → Prop}
    (hK : ∀ tmps' w', DInv P ro n w0 l g M ds S r0 V r m val (listed.setIfInBounds i true) tmps' → Sat w0 m (S ++ U) w' → K ⟨tmps', marks ds⟩ w') : wpOpIn (FW ro) 0 P l.toArray Q i K ⟨tmps, marks ds⟩ w := by
  obtain ⟨d, ri, hd, hnd, hri, hwl⟩ := h.rcd i o hi ho hV hnl
  refine wpOp_of_q1 (m := m) (H := S ++ U) (w0 := w0) (v := val i) (by simpa using ho) hd hnd ?_ ?_
  · refine hwl m U (Mem.le.refl _) tmps w ⟨h.tsize, fun t u ht => ?_⟩ hsat
    obtain ⟨hlook, hget⟩ := Env.sel_get ht
    rcases hri t hlook u hget with ⟨j, oj, hj, hoj, hdj, hv, e, he, hb, hon⟩ | ⟨h0, hno⟩
    · have := hw e he hb
      rw [hon] at this
      rw [h.done j oj t hj this hoj hdj, hv]
    · refine h.old t u h0 (fun j oj hj hjl hoj hdj => ?_)
      have := mask_listed ok h.closed j oj hoj (h.closed j oj hoj hjl) i (hno j oj hj hoj hdj)
      rw [hnl] at this; cases this
  · intro w' hsat' hdlt
    have hil := (List.getElem?_eq_some_iff.1 ho).1
    refine hK _ w' ⟨h.env, h.vclosed, ?_, by simp [h.size], closed_set h.closed ho hw, ?_, ?_, by simp [h.tsize], ?_, ?_⟩ hsat'
    · intro i' o' hi' ho' hV' hnl'
      refine h.rcd i' o' hi' ho' hV' ?_
      cases hq : listed.getD i' false with
      | false => rfl
      | true => rw [listed_keep hq] at hnl'; cases hnl'
    · intro j hj hjl
      by_cases e : j = i
      · subst e; exact hV
      · exact h.sub j hj (listed_set hjl e)
    · intro j hj hjl
      cases hq : (listed.setIfInBounds i true).getD j false with
      | false => rfl
      | true => have := listed_set hq (by omega); rw [h.tail j hj hjl] at this; cases this
    · intro j oj dj hj hjl hoj hdj
      by_cases e : j = i
      · subst e
        rw [ho] at hoj; cases hoj
        rw [hd] at hdj; cases hdj
        exact Array.getElem?_setIfInBounds_self_of_lt hdlt
      · have hne : d ≠ dj := fun e2 => by
          subst e2
          exact e (ok.dst j oj hj hoj _ hdj i o hi ho hd)
        rw [Array.getElem?_setIfInBounds_ne hne]
        exact h.done j oj dj hj (listed_set hjl e) hoj hdj
    · intro t u ht hno
      have hil' : (listed.setIfInBounds i true).getD i false = true := by simp [show i < listed.size by rw [h.size]; exact hil]
      have hne : d ≠ t := fun e => by subst e; exact hno i o hi hil' ho hd
      rw [Array.getElem?_setIfInBounds_ne hne]
      exact h.old t u ht (fun j oj hj hjl hoj => hno j oj hj (listed_keep hjl) hoj)
/-- one more is calm -/
theorem DInv.calm (ok : DrawOk l g M) (h : DInv P ro n w0 l g M ds S r0 V r m val listed tmps) {i d : Nat} {o : Oper} {v : Value} (hi : i < g) (ho : l[i]? = some o) (hV : V.testBit i = false) (hr : readyV V o) (hd : o.dst = some d) (hnd : ∀ c, o.op ≠ .defer c)
    (hwl : ∀ m' F, m.le m' → WL P ro n w0 l.toArray (Q1 w0 d v ds m' (S ++ F)) [o] (Env.sel (o.looksAt l.toArray) r) ds m' (S ++ F)) :
    DInv P ro n w0 l g M ds S r0 (V ||| 1 <<< i) ((d, v) :: r) m (fun j => if j = i then v else val j) listed tmps := by
  have hval : ∀ j, V.testBit j = true → (if j = i then v else val j) = val j := fun j hj => if_neg (fun e => by subst e; rw [hV] at hj; cases hj)
  refine ⟨?_, ?_, ?_, h.size, h.closed, fun j hj hjl => bit_keep (h.sub j hj hjl), h.tail, h.tsize, ?_, h.old⟩
  · intro t u ht
    simp only [Env.get] at ht
    cases hq : Nat.beq d t with
    | true =>
      have e := Nat.eq_of_beq_eq_true hq
      subst e
      simp [hq] at ht
      subst ht
      exact .inl ⟨i, o, hi, bit_self V i, ho, hd, if_pos rfl⟩
    | false =>
      simp [hq] at ht
      rcases h.env t u ht with ⟨j, oj, hj, hjV, hoj, hdj, hv⟩ | ⟨h0, hno⟩
      · exact .inl ⟨j, oj, hj, bit_keep hjV, hoj, hdj, by rw [hval j hjV]; exact hv⟩
      · refine .inr ⟨h0, fun j oj hj hjV hoj hdj => ?_⟩
        by_cases e : j = i
        · subst e
          rw [ho] at hoj; cases hoj
          rw [hd] at hdj; cases hdj
          exact Nat.ne_of_beq_eq_false hq rfl
        · exact hno j oj hj (bit_old hjV e) hoj hdj
  · intro j oj hj hoj hjV e he hb
    by_cases e2 : j = i
    · subst e2
      rw [ho] at hoj; cases hoj
      exact bit_keep (hr e he hb)
    · exact bit_keep (h.vclosed j oj hj hoj (bit_old hjV e2) e he hb)
  · intro i' o' hi' ho' hV' hnl'
    by_cases e : i' = i
    · subst e
      rw [ho] at ho'; cases ho'
      refine ⟨d, r, hd, hnd, ?_, ?_⟩
      · intro t hlook u hget
        rcases h.env t u hget with ⟨j, oj, hj, hjV, hoj, hdj, hv⟩ | ⟨h0, hno⟩
        · rcases ok.reads i' o hi ho t hlook j oj hj hoj hdj with ⟨_, e, he, hb, hon⟩ | ⟨_, hbit⟩
          · exact .inl ⟨j, oj, hj, hoj, hdj, by rw [hval j hjV]; exact hv, e, he, hb, hon⟩
          · have := h.vmask ok hj hoj (h.vclosed j oj hj hoj hjV) hbit
            rw [hV] at this; cases this
        · refine .inr ⟨h0, fun j oj hj hoj hdj => ?_⟩
          rcases ok.reads i' o hi ho t hlook j oj hj hoj hdj with ⟨_, e, he, hb, hon⟩ | ⟨_, hbit⟩
          · have := hr e he hb
            rw [hon] at this
            exact absurd hdj (hno j oj hj this hoj)
          · exact hbit
      · simp only [if_true]
        exact hwl
    · have hVo := bit_old hV' e
      obtain ⟨d', ri, k1, k2, k3, k4⟩ := h.rcd i' o' hi' ho' hVo hnl'
      refine ⟨d', ri, k1, k2, ?_, by rw [hval i' hVo]; exact k4⟩
      intro t hlook u hget
      rcases k3 t hlook u hget with ⟨j, oj, hj, hoj, hdj, hv, e', he', hb', hon'⟩ | h2
      · have hjV : V.testBit j = true := by have := h.vclosed i' o' hi' ho' hVo e' he' hb'; rwa [hon'] at this
        exact .inl ⟨j, oj, hj, hoj, hdj, by rw [hval j hjV]; exact hv, e', he', hb', hon'⟩
      · exact .inr h2
  · intro j oj dj hj hjl hoj hdj
    rw [hval j (h.sub j hj hjl)]
    exact h.done j oj dj hj hjl hoj hdj
/-- one acts -/
theorem DInv.act (ok : DrawOk l g M) (h : DInv P ro n w0 l g M ds S r0 V r m val listed tmps) {i d : Nat} {o : Oper} {v : Value} {m' : Mem} {B : SHeap} (hi : i < g) (ho : l[i]? = some o) (hV : V.testBit i = false)
    (hw : ∀ e ∈ o.after, bind1 e = true → listed.getD e.on false = true) (hd : o.dst = some d) (hm : m.le m') (hdlt : d < tmps.size) :
    DInv P ro n w0 l g M ds (S ++ B) r0 (V ||| 1 <<< i) ((d, v) :: r) m' (fun j => if j = i then v else val j) (listed.setIfInBounds i true) (tmps.setIfInBounds d v) := by
  have hval : ∀ j, V.testBit j = true → (if j = i then v else val j) = val j := fun j hj => if_neg (fun e => by subst e; rw [hV] at hj; cases hj)
  have hil := (List.getElem?_eq_some_iff.1 ho).1
  have hr : readyV V o := fun e he hb => h.sub e.on (by have := ok.down i o ho e he hb; omega) (hw e he hb)
  refine ⟨?_, ?_, ?_, by simp [h.size], closed_set h.closed ho hw, ?_, ?_, by simp [h.tsize], ?_, ?_⟩
  · intro t u ht
    simp only [Env.get] at ht
    cases hq : Nat.beq d t with
    | true =>
      have e := Nat.eq_of_beq_eq_true hq
      subst e
      simp [hq] at ht
      subst ht
      exact .inl ⟨i, o, hi, bit_self V i, ho, hd, if_pos rfl⟩
    | false =>
      simp [hq] at ht
      rcases h.env t u ht with ⟨j, oj, hj, hjV, hoj, hdj, hv⟩ | ⟨h0, hno⟩
      · exact .inl ⟨j, oj, hj, bit_keep hjV, hoj, hdj, by rw [hval j hjV]; exact hv⟩
      · refine .inr ⟨h0, fun j oj hj hjV hoj hdj => ?_⟩
        by_cases e : j = i
        · subst e
          rw [ho] at hoj; cases hoj
          rw [hd] at hdj; cases hdj
          exact Nat.ne_of_beq_eq_false hq rfl
        · exact hno j oj hj (bit_old hjV e) hoj hdj
  · intro j oj hj hoj hjV e he hb
    by_cases e2 : j = i
    · subst e2
      rw [ho] at hoj; cases hoj
      exact bit_keep (hr e he hb)
    · exact bit_keep (h.vclosed j oj hj hoj (bit_old hjV e2) e he hb)
  · intro i' o' hi' ho' hV' hnl'
    have e : i' ≠ i := fun e => by
      subst e
      have : (listed.setIfInBounds i' true).getD i' false = true := by simp [show i' < listed.size by rw [h.size]; exact hil]
      rw [this] at hnl'; cases hnl'
    have hVo := bit_old hV' e
    have hnl : listed.getD i' false = false := by
      cases hq : listed.getD i' false with
      | false => rfl
      | true => rw [listed_keep hq] at hnl'; cases hnl'
    obtain ⟨d', ri, k1, k2, k3, k4⟩ := h.rcd i' o' hi' ho' hVo hnl
    refine ⟨d', ri, k1, k2, ?_, by rw [hval i' hVo]; exact fun m'' F hle => by rw [List.append_assoc]; exact k4 m'' (B ++ F) (hm.trans hle)⟩
    intro t hlook u hget
    rcases k3 t hlook u hget with ⟨j, oj, hj, hoj, hdj, hv, e', he', hb', hon'⟩ | h2
    · have hjV : V.testBit j = true := by have := h.vclosed i' o' hi' ho' hVo e' he' hb'; rwa [hon'] at this
      exact .inl ⟨j, oj, hj, hoj, hdj, by rw [hval j hjV]; exact hv, e', he', hb', hon'⟩
    · exact .inr h2
  · intro j hj hjl
    by_cases e : j = i
    · subst e; exact bit_self V j
    · exact bit_keep (h.sub j hj (listed_set hjl e))
  · intro j hj hjl
    cases hq : (listed.setIfInBounds i true).getD j false with
    | false => rfl
    | true => have := listed_set hq (by omega); rw [h.tail j hj hjl] at this; cases this
  · intro j oj dj hj hjl hoj hdj
    by_cases e : j = i
    · subst e
      rw [ho] at hoj; cases hoj
      rw [hd] at hdj; cases hdj
      simp only [if_true]
      exact Array.getElem?_setIfInBounds_self_of_lt hdlt
    · have hjl' := listed_set hjl e
      have hne : d ≠ dj := fun e2 => by
        subst e2
        exact e (ok.dst j oj hj hoj _ hdj i o hi ho hd)
      rw [Array.getElem?_setIfInBounds_ne hne, hval j (h.sub j hj hjl')]
      exact h.done j oj dj hj hjl' hoj hdj
  · intro t u ht hno
    have hil' : (listed.setIfInBounds i true).getD i false = true := by simp [show i < listed.size by rw [h.size]; exact hil]
    have hne : d ≠ t := fun e => by subst e; exact hno i o hi hil' ho hd
    rw [Array.getElem?_setIfInBounds_ne hne]
    exact h.old t u ht (fun j oj hj hjl hoj => hno j oj hj (listed_keep hjl) hoj)
/-- one acts that has no answer -/
theorem DInv.actN (ok : DrawOk l g M) (h : DInv P ro n w0 l g M ds S r0 V r m val listed tmps) {i : Nat} {o : Oper} {m' : Mem} {B : SHeap} (hi : i < g) (ho : l[i]? = some o) (hV : V.testBit i = false)
    (hw : ∀ e ∈ o.after, bind1 e = true → listed.getD e.on false = true) (hd : o.dst = none) (hm : m.le m') :
    DInv P ro n w0 l g M ds (S ++ B) r0 (V ||| 1 <<< i) r m' val (listed.setIfInBounds i true) tmps := by
  have hil := (List.getElem?_eq_some_iff.1 ho).1
  have hr : readyV V o := fun e he hb => h.sub e.on (by have := ok.down i o ho e he hb; omega) (hw e he hb)
  refine ⟨?_, ?_, ?_, by simp [h.size], closed_set h.closed ho hw, ?_, ?_, h.tsize, ?_, ?_⟩
  · intro t u ht
    rcases h.env t u ht with ⟨j, oj, hj, hjV, hoj, hdj, hv⟩ | ⟨h0, hno⟩
    · exact .inl ⟨j, oj, hj, bit_keep hjV, hoj, hdj, hv⟩
    · refine .inr ⟨h0, fun j oj hj hjV hoj hdj => ?_⟩
      by_cases e : j = i
      · subst e
        rw [ho] at hoj; cases hoj
        rw [hd] at hdj; cases hdj
      · exact hno j oj hj (bit_old hjV e) hoj hdj
  · intro j oj hj hoj hjV e he hb
    by_cases e2 : j = i
    · subst e2
      rw [ho] at hoj; cases hoj
      exact bit_keep (hr e he hb)
    · exact bit_keep (h.vclosed j oj hj hoj (bit_old hjV e2) e he hb)
  · intro i' o' hi' ho' hV' hnl'
    have e : i' ≠ i := fun e => by
      subst e
      have : (listed.setIfInBounds i' true).getD i' false = true := by simp [show i' < listed.size by rw [h.size]; exact hil]
      rw [this] at hnl'; cases hnl'
    have hVo := bit_old hV' e
    have hnl : listed.getD i' false = false := by
      cases hq : listed.getD i' false with
      | false => rfl
      | true => rw [listed_keep hq] at hnl'; cases hnl'
    obtain ⟨d', ri, k1, k2, k3, k4⟩ := h.rcd i' o' hi' ho' hVo hnl
    exact ⟨d', ri, k1, k2, k3, fun m'' F hle => by rw [List.append_assoc]; exact k4 m'' (B ++ F) (hm.trans hle)⟩
  · intro j hj hjl
    by_cases e : j = i
    · subst e; exact bit_self V j
    · exact bit_keep (h.sub j hj (listed_set hjl e))
  · intro j hj hjl
    cases hq : (listed.setIfInBounds i true).getD j false with
    | false => rfl
    | true => have := listed_set hq (by omega); rw [h.tail j hj hjl] at this; cases this
  · intro j oj dj hj hjl hoj hdj
    by_cases e : j = i
    · subst e
      rw [ho] at hoj; cases hoj
      rw [hd] at hdj; cases hdj
    · exact h.done j oj dj hj (listed_set hjl e) hoj hdj
  · intro t u ht hno
    exact h.old t u ht (fun j oj hj hjl hoj => hno j oj hj (listed_keep hjl) hoj)
theorem we_any (ok : DrawOk l g M) {K : Env → Mem → SHeap → SHeap → Prop} (hK : ∀ r m S U, K r m S U → WL P ro n w0 l.toArray Q (l.drop g) r ds m (S ++ U)) :
    ∀ (fuel k : Nat) (V : Nat) (r : Env) (m : Mem) (S U : SHeap) (val : Nat → Value) (listed : Array Bool) (tmps : Array Value) (w : World),
      WE P ro n w0 l g ds K k V r m S U → DInv P ro n w0 l g M ds S r0 V r m val listed tmps → Sat w0 m (S ++ U) w →
      ((List.range l.length).filter fun i => !listed.getD i false).length ≤ fuel → wpAnyIn (FW ro) 0 P .any l.toArray Q fuel listed ⟨tmps, marks ds⟩ w := by
  -- where all is done
  have final : ∀ (fuel : Nat) (V : Nat) (r : Env) (m : Mem) (S U : SHeap) (val : Nat → Value) (listed : Array Bool) (tmps : Array Value) (w : World), K r m S U → DInv P ro n w0 l g M ds S r0 V r m val listed tmps → Sat w0 m (S ++ U) w →
      (∀ i, i < g → listed.getD i false = true) → (∀ i, i < g → V.testBit i = true) → ((List.range l.length).filter fun i => !listed.getD i false).length ≤ fuel → wpAnyIn (FW ro) 0 P .any l.toArray Q fuel listed ⟨tmps, marks ds⟩ w := by
    intro fuel V r m S U val listed tmps w hk hI hs hall hV hf
    refine tail_any ok fuel g listed _ _ hI.size (Nat.le_refl _) ok.le (fun i hi => ⟨fun h => ?_, hall i⟩) ?_ ?_
    · rcases Nat.lt_or_ge i g with hlt | hge
      · exact hlt
      · rw [hI.tail i hge hi] at h; cases h
    · have : (List.range l.length).filter (fun i => !listed.getD i false) = (List.range l.length).filter (fun i => decide (g ≤ i)) := by
        apply List.filter_congr
        intro i hi
        have hi' := List.mem_range.1 hi
        rcases Nat.lt_or_ge i g with hlt | hge
        · rw [hall i hlt]; simp; omega
        · rw [hI.tail i hge hi']; simp [hge]
      rw [this] at hf
      have hcnt : l.length - g ≤ ((List.range l.length).filter (fun i => decide (g ≤ i))).length := by
        have hsub : List.Sublist (List.range' g (l.length - g)) ((List.range l.length).filter (fun i => decide (g ≤ i))) := by
          obtain ⟨k, hk⟩ : ∃ k, l.length = g + k := ⟨l.length - g, by have := ok.le; omega⟩
          have e : List.range l.length = List.range' 0 g ++ List.range' g (l.length - g) := by
            rw [List.range_eq_range', hk, Nat.add_sub_cancel_left]
            have := @List.range'_append 0 g k 1
            simpa using this.symm
          rw [e, List.filter_append]
          refine List.Sublist.trans ?_ (List.sublist_append_right _ _)
          rw [List.filter_eq_self.2 (fun i hi => by have := List.mem_range'_1.1 hi; simp; omega)]
          exact List.Sublist.refl _
        have := hsub.length_le
        simpa using this
      omega
    · refine hK r m S U hk tmps w ⟨hI.tsize, fun t u ht => ?_⟩ hs
      rcases hI.env t u ht with ⟨j, o, hj, _, hoj, hdj, hv⟩ | ⟨h0, hno⟩
      · rw [hI.done j o t hj (hall j hj) hoj hdj, hv]
      · exact hI.old t u h0 (fun j o hj hjl hoj => hno j o hj (hV j hj) hoj)
  intro fuel
  induction fuel with
  | zero =>
    intro k
    induction k with
    | zero => intro V r m S U val listed tmps w h; exact h.elim
    | succ k ihk =>
      intro V r m S U val listed tmps w h hI hs hf
      have hall : ∀ i, i < l.length → listed.getD i false = true := by
        intro i hi
        cases hq : listed.getD i false with
        | true => rfl
        | false =>
          exfalso
          have : i ∈ (List.range l.length).filter fun i => !listed.getD i false := by simp only [List.mem_filter, List.mem_range]; exact ⟨hi, by rw [hq]; rfl⟩
          have h0 := List.eq_nil_of_length_eq_zero (Nat.le_zero.1 hf)
          rw [h0] at this; cases this
      have hV : ∀ i, i < g → V.testBit i = true := fun i hi => hI.sub i hi (hall i (by have := ok.le; omega))
      rcases h with ⟨_, hk⟩ | ⟨i, o, d, v, hi, _, hVi, _⟩ | ⟨⟨i, hi, hVi⟩, _⟩
      · exact final 0 V r m S U val listed tmps w hk hI hs (fun i hi => hall i (by have := ok.le; omega)) hV hf
      · rw [hV i hi] at hVi; cases hVi
      · rw [hV i hi] at hVi; cases hVi
  | succ fuel ihf =>
    intro k
    induction k with
    | zero => intro V r m S U val listed tmps w h; exact h.elim
    | succ k ihk =>
      intro V r m S U val listed tmps w h hI hs hf
      by_cases hcalm : ∃ i o d v, i < g ∧ l[i]? = some o ∧ V.testBit i = false ∧ readyV V o ∧ o.dst = some d ∧ (∀ c, o.op ≠ .defer c) ∧
          (∀ m' F, m.le m' → WL P ro n w0 l.toArray (Q1 w0 d v ds m' (S ++ F)) [o] (Env.sel (o.looksAt l.toArray) r) ds m' (S ++ F)) ∧ WE P ro n w0 l g ds K k (V ||| 1 <<< i) ((d, v) :: r) m S U
      · obtain ⟨i, o, d, v, hi, ho, hV, hr, hd, hnd, hwl, hwe⟩ := hcalm
        exact ihk _ _ m S U _ listed tmps w hwe (hI.calm ok hi ho hV hr hd hnd hwl) hs hf
      -- an operation that is calm already, or one that acts
      have hcount : ∀ i, i < l.length → listed.getD i false = false → ((List.range l.length).filter fun k => !(listed.setIfInBounds i true).getD k false).length ≤ fuel := fun i hi hnl => by
        have := count_set hI.size hi hnl; omega
      by_cases hfin : ∀ i, i < g → listed.getD i false = true
      · have hV : ∀ i, i < g → V.testBit i = true := fun i hi => hI.sub i hi (hfin i hi)
        rcases h with ⟨_, hk⟩ | h | ⟨⟨i, hi, hVi⟩, _⟩
        · exact final _ V r m S U val listed tmps w hk hI hs hfin hV hf
        · exact absurd h hcalm
        · rw [hV i hi] at hVi; cases hVi
      refine ⟨fun hr => absurd (fun i hi => nothing_ready ok hI.size hr i (by have := ok.le; omega)) hfin, fun i hir => ?_⟩
      obtain ⟨h1, o, h2, h3⟩ := ready_of hir
      have hil := (List.getElem?_eq_some_iff.1 h2).1
      have hig : i < g := by
        rcases Nat.lt_or_ge i g with hlt | hge
        · exact hlt
        · exfalso
          refine hfin (fun k hk => ?_)
          exact mask_listed ok hI.closed i o h2 h3 k (ok.all i hge hil k (by omega))
      have hnl : listed.getD i false = false := by
        have hsz := hI.size
        simp only [Array.getD_eq_getD_getElem?] at h1 ⊢
        rw [Array.getElem?_eq_getElem (by omega)] at h1 ⊢
        exact h1
      cases hVi : V.testBit i with
      | true =>
        refine hI.deferred ok hs hig h2 hVi hnl h3 (fun tmps' w' hI' hs' => ?_)
        exact ihf (k + 1) V r m S U val _ tmps' w' h hI' hs' (hcount i hil hnl)
      | false =>
        rcases h with ⟨hV, _⟩ | h | ⟨_, h⟩
        · rw [hV i hig] at hVi; cases hVi
        · exact absurd h hcalm
        · have hrV : readyV V o := fun e he hb => hI.sub e.on (by have := ok.down i o h2 e he hb; omega) (h3 e he hb)
          have henv : ∀ t u, (Env.sel (o.looksAt l.toArray) r).get t = some u → tmps[t]? = some u := by
            intro t u ht
            obtain ⟨hlook, hget⟩ := Env.sel_get ht
            rcases hI.env t u hget with ⟨j, oj, hj, hjV, hoj, hdj, hv⟩ | ⟨h0, hno⟩
            · rcases ok.reads i o hig h2 t hlook j oj hj hoj hdj with ⟨_, e, he, hb, hon⟩ | ⟨_, hbit⟩
              · have := h3 e he hb
                rw [hon] at this
                rw [hI.done j oj t hj this hoj hdj, hv]
              · have := hI.vmask ok hj hoj (hI.vclosed j oj hj hoj hjV) hbit
                rw [hVi] at this; cases this
            · exact hI.old t u h0 (fun j oj hj hjl hoj => hno j oj hj (hI.sub j hj hjl) hoj)
          rcases h i o hig h2 hVi hrV with ⟨d, hd, hnd, hwl⟩ | ⟨hd, hnd, hwl⟩
          · refine wpOp_of_post (by simpa using h2) hd hnd ?_ ?_ (hwl tmps w ⟨hI.tsize, henv⟩ hs) ?_
            · rintro a w ⟨v, m', B, U', _, hdf, _⟩; exact hdf
            · intro e a w hq
              cases e <;> first | rfl | exact hq.elim
            · rintro v0 w' ⟨v, m', B, U', hv, _, hm, hs', hwe⟩
              have hdlt : d < tmps.size := by
                rcases Nat.lt_or_ge d tmps.size with hlt | hge
                · exact hlt
                · simp only at hv
                  rw [Array.getElem?_eq_none (by simpa using hge)] at hv; cases hv
              have hv0 : v0 = v := by
                simp only at hv
                rw [Array.getElem?_setIfInBounds_self_of_lt hdlt] at hv
                exact Option.some.inj hv
              subst hv0
              exact ihf k _ _ m' (S ++ B) U' _ _ _ w' hwe (hI.act ok hig h2 hVi h3 hd hm hdlt) hs' (hcount i hil hnl)
          · refine wpOp_of_postN (by simpa using h2) hd hnd ?_ ?_ (hwl tmps w ⟨hI.tsize, henv⟩ hs) ?_
            · rintro a w ⟨m', B, U', hdf, _⟩; exact hdf
            · intro e a w hq
              cases e <;> first | rfl | exact hq.elim
            · rintro w' ⟨m', B, U', _, hm, hs', hwe⟩
              exact ihf k _ _ m' (S ++ B) U' _ _ _ w' hwe (hI.actN ok hig h2 hVi h3 hd hm) hs' (hcount i hil hnl)
end sound
def readyB (V : Nat) (o : Oper) : Bool := o.after.all fun e => !bind1 e || V.testBit e.on
theorem readyB_iff {V : Nat} {o : Oper} : readyB V o = true ↔ readyV V o := by
  unfold readyB readyV
  rw [Array.all_eq_true']
  constructor
  · intro h e he hb
    have := h e he
    simpa [hb] using this
  · intro h e he
    cases hb : bind1 e with
    | false => simp
    | true => simp [h e he hb]
/-- no operation but these may come next -/
def onlyB (l : List Oper) (g V : Nat) (js : List Nat) : Bool :=
  ((List.range g).any fun i => !V.testBit i) && ((List.range g).all fun i => V.testBit i || js.contains i || match l[i]? with | some o => !readyB V o | none => true)
theorem onlyB_ok {l : List Oper} {g V : Nat} {js : List Nat} (h : onlyB l g V js = true) : (∃ i, i < g ∧ V.testBit i = false) ∧ ∀ i o, i < g → l[i]? = some o → V.testBit i = false → readyV V o → i ∈ js := by
  unfold onlyB at h
  rw [Bool.and_eq_true] at h
  constructor
  · obtain ⟨i, hi, hV⟩ := List.any_eq_true.1 h.1
    exact ⟨i, List.mem_range.1 hi, by simpa using hV⟩
  · intro i o hi ho hV hr
    have := List.all_eq_true.1 h.2 i (List.mem_range.2 hi)
    have hrb := readyB_iff.2 hr
    rw [ho, hV] at this
    simpa [hrb] using this
section build
variable {l : List Oper} {g : Nat} {S U : SHeap} {K : Env → Mem → SHeap → SHeap → Prop} {k V : Nat}
theorem WE.done (h : ((List.range g).all fun i => V.testBit i) = true) (hK : K r m S U) : WE P ro n w0 l g ds K (k + 1) V r m S U :=
  .inl ⟨fun i hi => List.all_eq_true.1 h i (List.mem_range.2 hi), hK⟩
theorem WE.calm (i : Nat) {o : Oper} {d : Nat} {v : Value} (hV : V.testBit i = false) (hi : Nat.blt i g = true) (ho : l[i]? = some o) (hr : readyB V o = true) (hd : o.dst = some d) (hnd : ∀ c, o.op ≠ .defer c)
    (hwl : ∀ m' F, m.le m' → WL P ro n w0 l.toArray (Q1 w0 d v ds m' (S ++ F)) [o] (Env.sel (o.looksAt l.toArray) r) ds m' (S ++ F))
    (h : WE P ro n w0 l g ds K k (V ||| 1 <<< i) ((d, v) :: r) m S U) : WE P ro n w0 l g ds K (k + 1) V r m S U :=
  .inr (.inl ⟨i, o, d, v, by simpa [Nat.blt_eq] using hi, ho, hV, readyB_iff.1 hr, hd, hnd, hwl, h⟩)
/-- what one that acts owes -/
def Acts (P : Program) (ro : Option Nat) (n : Nat) (w0 : World) (l : List Oper) (g : Nat) (ds : List Dfr) (K : Env → Mem → SHeap → SHeap → Prop) (k V : Nat) (r : Env) (m : Mem) (S U : SHeap) (i : Nat) : Prop :=
  ∃ o d, l[i]? = some o ∧ o.dst = some d ∧ (∀ c, o.op ≠ .defer c) ∧
    WL P ro n w0 l.toArray (QE w0 d ds S m fun v m' S' U' => WE P ro n w0 l g ds K k (V ||| 1 <<< i) ((d, v) :: r) m' S' U') [o] (Env.sel (o.looksAt l.toArray) r) ds m (S ++ U)
theorem WE.acts (js : List Nat) (h : onlyB l g V js = true) (hj : ∀ i ∈ js, Acts P ro n w0 l g ds K k V r m S U i) : WE P ro n w0 l g ds K (k + 1) V r m S U := by
  obtain ⟨h1, h2⟩ := onlyB_ok h
  refine .inr (.inr ⟨h1, fun i o hi ho hV hr => ?_⟩)
  obtain ⟨o', d, ho', hd, hnd, hwl⟩ := hj i (h2 i o hi ho hV hr)
  rw [ho] at ho'; cases ho'
  exact .inl ⟨d, hd, hnd, hwl⟩
/-- a store comes next -/
theorem WE.act0 (i : Nat) {o : Oper} (h : onlyB l g V [i] = true) (ho : l[i]? = some o) (hd : o.dst = none) (hnd : ∀ c, o.op ≠ .defer c)
    (hwl : WL P ro n w0 l.toArray (QN w0 ds S m fun m' S' U' => WE P ro n w0 l g ds K k (V ||| 1 <<< i) r m' S' U') [o] (Env.sel (o.looksAt l.toArray) r) ds m (S ++ U)) : WE P ro n w0 l g ds K (k + 1) V r m S U := by
  obtain ⟨h1, h2⟩ := onlyB_ok h
  refine .inr (.inr ⟨h1, fun i' o' hi ho' hV hr => ?_⟩)
  have := h2 i' o' hi ho' hV hr
  rw [List.mem_singleton] at this
  subst this
  rw [ho] at ho'; cases ho'
  exact .inr ⟨hd, hnd, hwl⟩
theorem WE.act1 (i : Nat) {o : Oper} {d : Nat} (h : onlyB l g V [i] = true) (ho : l[i]? = some o) (hd : o.dst = some d) (hnd : ∀ c, o.op ≠ .defer c)
    (hwl : WL P ro n w0 l.toArray (QE w0 d ds S m fun v m' S' U' => WE P ro n w0 l g ds K k (V ||| 1 <<< i) ((d, v) :: r) m' S' U') [o] (Env.sel (o.looksAt l.toArray) r) ds m (S ++ U)) : WE P ro n w0 l g ds K (k + 1) V r m S U :=
  .acts [i] h (fun j hj => by rw [List.mem_singleton] at hj; subst hj; exact ⟨o, d, ho, hd, hnd, hwl⟩)
theorem WE.act2 (i j : Nat) {o o' : Oper} {d d' : Nat} (h : onlyB l g V [i, j] = true) (ho : l[i]? = some o) (hd : o.dst = some d) (hnd : ∀ c, o.op ≠ .defer c) (ho' : l[j]? = some o') (hd' : o'.dst = some d') (hnd' : ∀ c, o'.op ≠ .defer c)
    (hwl : WL P ro n w0 l.toArray (QE w0 d ds S m fun v m' S' U' => WE P ro n w0 l g ds K k (V ||| 1 <<< i) ((d, v) :: r) m' S' U') [o] (Env.sel (o.looksAt l.toArray) r) ds m (S ++ U))
    (hwl' : WL P ro n w0 l.toArray (QE w0 d' ds S m fun v m' S' U' => WE P ro n w0 l g ds K k (V ||| 1 <<< j) ((d', v) :: r) m' S' U') [o'] (Env.sel (o'.looksAt l.toArray) r) ds m (S ++ U)) : WE P ro n w0 l g ds K (k + 1) V r m S U :=
  .acts [i, j] h (fun q hq => by
    rcases List.mem_cons.1 hq with rfl | hq
    · exact ⟨o, d, ho, hd, hnd, hwl⟩
    · rw [List.mem_singleton] at hq; subst hq; exact ⟨o', d', ho', hd', hnd', hwl'⟩)
end build
/-- a region that draws its order, where some operations act -/
theorem WC.drawE {id : Nat} {l : List Oper} (g : Nat) (S U : SHeap) (hm : P.follows .mixedOrders = true) (hc : drawC l g = true) (hS : ∀ w, Sat w0 m H w → Sat w0 m (S ++ U) w)
    (h : WE P ro n w0 l g ds (fun r' m' S' U' => WL P ro n w0 l.toArray Q (l.drop g) r' ds m' (S' ++ U')) 200 0 r m S U) : WC P ro n w0 (.region id l.toArray true) Q r ds m H := by
  intro tmps w ho hs
  have ok := drawC_ok hc
  refine wpIn_region_draw fun t => ?_
  simp only [Region.schedule, hm, Bool.true_or, if_true]
  refine wpAnyIn_sound _ _ _ _ _ ?_
  have hz : ∀ k, (Array.replicate l.length false).getD k false = false := by
    intro k
    simp only [Array.getD_eq_getD_getElem?]
    by_cases hk : k < l.length
    · simp [hk]
    · rw [Array.getElem?_eq_none (by simpa using hk)]; rfl
  have hsz : l.toArray.size = l.length := by simp
  rw [hsz]
  refine we_any (r0 := r) ok (fun _ _ _ _ h => h) l.length 200 0 r m S U (fun _ => undef) _ tmps _ h ?_ (hS _ hs.drew) ?_
  · refine ⟨fun t u ht => .inr ⟨ht, fun j o _ hj => ?_⟩, fun j o _ _ hj => ?_, fun i o _ _ hj => ?_, by simp, fun j o _ hj => ?_, fun j _ hj => ?_, fun j _ _ => hz j, ho.size, fun j o d _ hj => ?_, fun t u ht _ => ho.at_ t u ht⟩
    · simp at hj
    · simp at hj
    · simp at hj
    · rw [hz] at hj; cases hj
    · rw [hz] at hj; cases hj
    · rw [hz] at hj; cases hj
  · exact Nat.le_trans (List.length_filter_le _ _) (by simp)
end
end Go.Eng

/-
  A walk's engine: ways out of a block that meet again. No condition.
-/
set_option linter.all false
namespace Go.Eng
open Go Go.RowKit
section
variable {P : Program} {ro : Option Nat} {n : Nat} {w0 : World} {Q : Exit → Act → World → Prop} {r : Env} {ds : List Dfr} {m : Mem} {H : SHeap}
def QJoinX (n : Nat) (w0 : World) (id : Nat) (I : Env → List Dfr → Mem → SHeap → Prop) (Q : Exit → Act → World → Prop) : Exit → Act → World → Prop
  | .exit j, a, w => if j = id then ∃ r ds m H, I r ds m H ∧ r.ok n a.tmps ∧ a.defers = marks ds ∧ Sat w0 m H w else Q (.exit j) a w
  | e, a, w => Q e a w
attribute [irreducible] QJoinX
end
end Go.Eng

/-
  A walk's engine: all that is calm at once. No condition.
-/
set_option linter.all false
namespace Go.Eng
open Go Go.RowKit
section
variable {P : Program} {ro : Option Nat} {n : Nat} {w0 : World} {r : Env} {ds : List Dfr} {m : Mem} {l : List Oper} {g : Nat} {S U : SHeap} {K : Env → Mem → SHeap → SHeap → Prop} {k V : Nat}
theorem wcal (i : Nat) {o : Oper} {d : Nat} {v : Value}
    (h : WE P ro n w0 l g ds K k (V ||| 1 <<< i) ((d, v) :: r) m S U) (hV : V.testBit i = false := by decide +kernel) (hi : Nat.blt i g = true := by exact rfl) (ho : l[i]? = some o := by exact rfl) (hr : readyB V o = true := by decide +kernel) (hd : o.dst = some d := by exact rfl) (hnd : ∀ c, o.op ≠ .defer c := by intro c h; cases h)
    (hwl : ∀ m' F, m.le m' → WL P ro n w0 l.toArray (Q1 w0 d v ds m' (S ++ F)) [o] (Env.sel (o.looksAt l.toArray) r) ds m' (S ++ F)) : WE P ro n w0 l g ds K (k + 1) V r m S U :=
  WE.calm i hV hi ho hr hd hnd hwl h
end
theorem cm0 {G G' : Prop} (next : G') (h : Bx G' → G := by intro zzn; (try (refine wcal 0 ?_ (hwl := by intro zm zF zle; ((repeat (refine sp ?_; intros)); exact WQ.q1 rfl)))); (try (refine wcal 1 ?_ (hwl := by intro zm zF zle; ((repeat (refine sp ?_; intros)); exact WQ.q1 rfl)))); (try (refine wcal 2 ?_ (hwl := by intro zm zF zle; ((repeat (refine sp ?_; intros)); exact WQ.q1 rfl)))); (try (refine wcal 3 ?_ (hwl := by intro zm zF zle; ((repeat (refine sp ?_; intros)); exact WQ.q1 rfl)))); (try (refine wcal 4 ?_ (hwl := by intro zm zF zle; ((repeat (refine sp ?_; intros)); exact WQ.q1 rfl)))); (try (refine wcal 5 ?_ (hwl := by intro zm zF zle; ((repeat (refine sp ?_; intros)); exact WQ.q1 rfl)))); (try (refine wcal 6 ?_ (hwl := by intro zm zF zle; ((repeat (refine sp ?_; intros)); exact WQ.q1 rfl)))); (try (refine wcal 7 ?_ (hwl := by intro zm zF zle; ((repeat (refine sp ?_; intros)); exact WQ.q1 rfl)))); (try (refine wcal 8 ?_ (hwl := by intro zm zF zle; ((repeat (refine sp ?_; intros)); exact WQ.q1 rfl)))); (try (refine wcal 9 ?_ (hwl := by intro zm zF zle; ((repeat (refine sp ?_; intros)); exact WQ.q1 rfl)))); (try (refine wcal 10 ?_ (hwl := by intro zm zF zle; ((repeat (refine sp ?_; intros)); exact WQ.q1 rfl)))); (try (refine wcal 11 ?_ (hwl := by intro zm zF zle; ((repeat (refine sp ?_; intros)); exact WQ.q1 rfl)))); (try (refine wcal 12 ?_ (hwl := by intro zm zF zle; ((repeat (refine sp ?_; intros)); exact WQ.q1 rfl)))); (try (refine wcal 13 ?_ (hwl := by intro zm zF zle; ((repeat (refine sp ?_; intros)); exact WQ.q1 rfl)))); (try (refine wcal 14 ?_ (hwl := by intro zm zF zle; ((repeat (refine sp ?_; intros)); exact WQ.q1 rfl)))); (try (refine wcal 15 ?_ (hwl := by intro zm zF zle; ((repeat (refine sp ?_; intros)); exact WQ.q1 rfl)))); (try (refine wcal 16 ?_ (hwl := by intro zm zF zle; ((repeat (refine sp ?_; intros)); exact WQ.q1 rfl)))); (try (refine wcal 17 ?_ (hwl := by intro zm zF zle; ((repeat (refine sp ?_; intros)); exact WQ.q1 rfl)))); (try (refine wcal 18 ?_ (hwl := by intro zm zF zle; ((repeat (refine sp ?_; intros)); exact WQ.q1 rfl)))); (try (refine wcal 19 ?_ (hwl := by intro zm zF zle; ((repeat (refine sp ?_; intros)); exact WQ.q1 rfl)))); (try (refine wcal 20 ?_ (hwl := by intro zm zF zle; ((repeat (refine sp ?_; intros)); exact WQ.q1 rfl)))); (try (refine wcal 21 ?_ (hwl := by intro zm zF zle; ((repeat (refine sp ?_; intros)); exact WQ.q1 rfl)))); (try (refine wcal 22 ?_ (hwl := by intro zm zF zle; ((repeat (refine sp ?_; intros)); exact WQ.q1 rfl)))); (try (refine wcal 23 ?_ (hwl := by intro zm zF zle; ((repeat (refine sp ?_; intros)); exact WQ.q1 rfl)))); (try (refine wcal 24 ?_ (hwl := by intro zm zF zle; ((repeat (refine sp ?_; intros)); exact WQ.q1 rfl)))); (try (refine wcal 25 ?_ (hwl := by intro zm zF zle; ((repeat (refine sp ?_; intros)); exact WQ.q1 rfl)))); (try (refine wcal 26 ?_ (hwl := by intro zm zF zle; ((repeat (refine sp ?_; intros)); exact WQ.q1 rfl)))); (try (refine wcal 27 ?_ (hwl := by intro zm zF zle; ((repeat (refine sp ?_; intros)); exact WQ.q1 rfl)))); (try (refine wcal 28 ?_ (hwl := by intro zm zF zle; ((repeat (refine sp ?_; intros)); exact WQ.q1 rfl)))); (try (refine wcal 29 ?_ (hwl := by intro zm zF zle; ((repeat (refine sp ?_; intros)); exact WQ.q1 rfl)))); (try (refine wcal 30 ?_ (hwl := by intro zm zF zle; ((repeat (refine sp ?_; intros)); exact WQ.q1 rfl)))); (try (refine wcal 31 ?_ (hwl := by intro zm zF zle; ((repeat (refine sp ?_; intros)); exact WQ.q1 rfl)))); (try (refine wcal 32 ?_ (hwl := by intro zm zF zle; ((repeat (refine sp ?_; intros)); exact WQ.q1 rfl)))); (try (refine wcal 33 ?_ (hwl := by intro zm zF zle; ((repeat (refine sp ?_; intros)); exact WQ.q1 rfl)))); (try (refine wcal 34 ?_ (hwl := by intro zm zF zle; ((repeat (refine sp ?_; intros)); exact WQ.q1 rfl)))); (try (refine wcal 35 ?_ (hwl := by intro zm zF zle; ((repeat (refine sp ?_; intros)); exact WQ.q1 rfl)))); (try (refine wcal 36 ?_ (hwl := by intro zm zF zle; ((repeat (refine sp ?_; intros)); exact WQ.q1 rfl)))); (try (refine wcal 37 ?_ (hwl := by intro zm zF zle; ((repeat (refine sp ?_; intros)); exact WQ.q1 rfl)))); (try (refine wcal 38 ?_ (hwl := by intro zm zF zle; ((repeat (refine sp ?_; intros)); exact WQ.q1 rfl)))); (try (refine wcal 39 ?_ (hwl := by intro zm zF zle; ((repeat (refine sp ?_; intros)); exact WQ.q1 rfl)))); (try (refine wcal 40 ?_ (hwl := by intro zm zF zle; ((repeat (refine sp ?_; intros)); exact WQ.q1 rfl)))); (try (refine wcal 41 ?_ (hwl := by intro zm zF zle; ((repeat (refine sp ?_; intros)); exact WQ.q1 rfl)))); exact zzn.out) : G := h ⟨next⟩
end Go.Eng

/-
  A walk's engine: a rune's last bit; answers told as propositions. No condition.
-/
set_option linter.all false
namespace Go.Eng
open Go Go.RowKit
theorem ofInt32 {a : Int} (h : 0 ≤ a ∧ a ≤ 2147483647) : (BitVec.ofInt 32 a).toNat = a.toNat := by
  rw [BitVec.toNat_ofInt]; norm_cast; omega
section
variable {P : Program} {ro : Option Nat} {n : Nat} {w0 : World} {Q : Exit → Act → World → Prop} {r : Env} {ds : List Dfr} {m : Mem} {H : SHeap}
  {ops : Array Oper} {l : List Oper} {d : Nat} {ty t t' : TypeId} {pos : String} {after : Array Edge} {x y : Operand} {a : Int}
theorem WL.and32 (hx : r.ev x = some (.int .i32 a)) (hy : r.ev y = some (.int .i32 1)) (hd : Nat.blt d n = true) (ha : 0 ≤ a ∧ a ≤ 2147483647)
    (h : WL P ro n w0 ops Q l ((d, .int .i32 (a % 2)) :: r) ds m H) : WL P ro n w0 ops Q (⟨some d, .binOp .and t x y t', ty, pos, after, none⟩ :: l) r ds m H := by
  refine .int2 (fun _ _ _ => guard_int _ _ _ _ _ _ _ _) (fun w => ?_) hx hy hd h
  have h1 := ofInt32 ha
  have h2 : (BitVec.ofInt 32 1).toNat = 1 := by decide
  show (pure (Value.int IntKind.i32 (IntKind.i32.wrap (((BitVec.ofInt 32 a) &&& (BitVec.ofInt 32 1)).toNat : Int))) : Sem Value).run P w = _
  have h4 : ((a.toNat % 2 : Nat) : Int) = a % 2 := by omega
  rw [BitVec.toNat_and, h1, h2, Nat.and_one_is_mod, h4, wrap32_id ⟨by omega, by omega⟩]; rfl
end

theorem dcd_cong {p q : Prop} [Decidable p] [Decidable q] (h : p ↔ q) : dcd p = dcd q := by rw [dcd_eq, dcd_eq]; exact decide_eq_decide.2 h
theorem dcd_not {p : Prop} [Decidable p] : (!dcd p) = dcd (¬ p) := by rw [dcd_eq, dcd_eq]; exact (decide_not).symm
theorem tru_iff {p : Prop} [Decidable p] (h : p) : true = dcd p := (dcd_true h).symm
theorem fls_iff {p : Prop} [Decidable p] (h : ¬ p) : false = dcd p := (dcd_false h).symm
end Go.Eng

/-
  Plain facts on the pieces of a text, second part: pieces lie in step with the forms; the last piece. No condition.
-/
set_option linter.all false
namespace Go.Eng
open Go
set_option linter.all false
/-- a place where a piece begins -/
def Reach (l : List UInt8) (j : Nat) : Prop := ∃ pre, pieces l = pre ++ from_ l j
theorem Reach.zero (l : List UInt8) : Reach l 0 := ⟨[], rfl⟩
theorem Reach.step {l : List UInt8} {j : Nat} (h : Reach l j) (hj : j < l.length) : Reach l (j + (readP l j).w) := by
  obtain ⟨pre, h⟩ := h
  exact ⟨pre ++ [readP l j], by rw [h, from_cons hj]; simp⟩
def lastP (l : List UInt8) : Pc := (pieces l).getLastD ⟨0, 0, 0, false⟩
end Go.Eng

/-
  Plain facts on the pieces of a text, third part: which places are boundaries, and what stands around a place. No condition.
-/
set_option linter.all false
namespace Go.Eng
open Go
set_option linter.all false
theorem from_split (l : List UInt8) : ∀ d k, l.length - k ≤ d → ∀ pre p post, from_ l k = pre ++ p :: post → k ≤ p.at_ ∧ p.at_ < l.length ∧ p = readP l p.at_ ∧ p :: post = from_ l p.at_ ∧ (∀ q ∈ pre, q.at_ < p.at_)
  | 0, k, hd, pre, p, post, h => by
    rw [from_nil (by omega)] at h; simp at h
  | d + 1, k, hd, pre, p, post, h => by
    by_cases hk : k < l.length
    · have hw := readP_w hk
      have h' := h
      rw [from_cons hk] at h
      cases pre with
      | nil =>
        simp only [List.nil_append, List.cons.injEq] at h
        obtain ⟨rfl, h2⟩ := h
        have ha := readP_at l k
        refine ⟨by omega, by omega, by rw [ha], by rw [ha, from_cons hk, h2], by simp⟩
      | cons q pre =>
        simp only [List.cons_append, List.cons.injEq] at h
        obtain ⟨rfl, h2⟩ := h
        obtain ⟨g1, g2, g3, g4, g5⟩ := from_split l d _ (by omega) pre p post h2
        refine ⟨by omega, g2, g3, g4, fun q hq => ?_⟩
        rcases List.mem_cons.1 hq with rfl | hq
        · rw [readP_at]; omega
        · exact g5 q hq
    · rw [from_nil hk] at h; simp at h
theorem pieces_split {l : List UInt8} {pre post : List Pc} {p : Pc} (h : pieces l = pre ++ p :: post) : p.at_ < l.length ∧ p = readP l p.at_ ∧ p :: post = from_ l p.at_ ∧ (∀ q ∈ pre, q.at_ < p.at_) :=
  (from_split l l.length 0 (by omega) pre p post h).2
theorem reach_of_mem {l : List UInt8} {p : Pc} (h : p ∈ pieces l) : Reach l p.at_ ∧ p.at_ < l.length ∧ p = readP l p.at_ := by
  obtain ⟨pre, post, e⟩ := List.append_of_mem h
  obtain ⟨h1, h2, h3, _⟩ := pieces_split e
  exact ⟨⟨pre, by rw [e, h3]⟩, h1, h2⟩
/-- a place within a form: where the form begins -/
def Within (l : List UInt8) (at_ i : Nat) : Prop := i < at_ ∧ at_ < i + (readP l i).w ∧ (readP l i).b = false
end Go.Eng

/-
  Plain facts: pieces that two texts have alike, their order; a rune's first piece. No condition.
-/
set_option linter.all false
namespace Go.Eng
open Go
/-- a piece's place in the order of pieces -/
def wt (l : List UInt8) (p : Pc) : Nat := if p.b then 16777216 + gb l p.at_ else p.r
def cm : List Nat → List Nat → Nat
  | x :: X, y :: Y => if x = y then cm X Y + 1 else 0
  | _, _ => 0
def cmpL : List Nat → List Nat → Int
  | [], [] => 0
  | [], _ :: _ => -1
  | _ :: _, [] => 1
  | x :: X, y :: Y => if x = y then cmpL X Y else if x < y then -1 else 1
theorem cm_pre : ∀ (P X Y : List Nat), cm (P ++ X) (P ++ Y) = P.length + cm X Y
  | [], X, Y => by simp
  | p :: P, X, Y => by simp [cm, cm_pre P X Y]; omega
theorem cmpL_pre : ∀ (P X Y : List Nat), cmpL (P ++ X) (P ++ Y) = cmpL X Y
  | [], X, Y => rfl
  | p :: P, X, Y => by simp [cmpL, cmpL_pre P X Y]
/-- two rows that have nothing alike at their heads -/
def stop : List Nat → List Nat → Prop
  | x :: _, y :: _ => x ≠ y
  | _, _ => True
theorem readP_cases {l : List UInt8} {k : Nat} (hk : k < l.length) : ((readP l k).b = true ∧ (readP l k).w = 1 ∧ (readP l k).r = 65533) ∨ ((readP l k).b = false ∧ (readP l k).w = wd (readP l k).r ∧ (readP l k).r ≤ 1114111) := by
  unfold readP
  split
  · exact .inl ⟨rfl, rfl, rfl⟩
  · rename_i h
    rcases dl_cases (l.drop k) (by simp; omega) with ⟨h1, h2, _⟩ | ⟨h2, _⟩
    · exact .inr ⟨rfl, h2, okr_le h1⟩
    · exact absurd h2 h
theorem wt_read {l : List UInt8} {k : Nat} : wt l (readP l k) = if (readP l k).b then 16777216 + gb l k else (readP l k).r := by unfold wt; rw [readP_at]
/-- so far all is alike -/
def Sh (a b : List UInt8) (n k : Nat) : Prop := ∃ pa pb, pieces a = pa ++ from_ a k ∧ pieces b = pb ++ from_ b k ∧ pa.length = n ∧ pb.length = n ∧ pa.map (wt a) = pb.map (wt b) ∧ k ≤ a.length ∧ k ≤ b.length
theorem Sh.start (a b : List UInt8) : Sh a b 0 0 := ⟨[], [], rfl, rfl, rfl, rfl, rfl, by omega, by omega⟩
theorem wt_same {a b : List UInt8} {k : Nat} (ha : k < a.length) (hb : k < b.length) : wt a (readP a k) = wt b (readP b k) ↔ readP a k = readP b k ∧ ((readP a k).b = true → gb a k = gb b k) := by
  rw [wt_read, wt_read]
  have h1 := readP_at a k
  have h2 := readP_at b k
  have h3 := gb_lt a k
  have h4 := gb_lt b k
  have e1 := readP_cases ha
  have e2 := readP_cases hb
  generalize readP a k = p at *
  generalize readP b k = q at *
  obtain ⟨pa, pw, pr, pb⟩ := p
  obtain ⟨qa, qw, qr, qb⟩ := q
  simp only at *
  subst h1; subst h2
  simp only [Pc.mk.injEq]
  rcases e1 with ⟨rfl, rfl, rfl⟩ | ⟨rfl, rfl, h5⟩ <;> rcases e2 with ⟨rfl, rfl, rfl⟩ | ⟨rfl, rfl, h6⟩
  · simp
  · simp; omega
  · simp; omega
  · simp; intro h; rw [h]
theorem Sh.next {a b : List UInt8} {n k : Nat} (h : Sh a b n k) (ha : k < a.length) (hb : k < b.length) (hw : wt a (readP a k) = wt b (readP b k)) : Sh a b (n + 1) (k + (readP a k).w) := by
  obtain ⟨pa, pb, h1, h2, h3, h4, h5, h6, h7⟩ := h
  have he := ((wt_same ha hb).1 hw).1
  rw [from_cons ha] at h1
  rw [from_cons hb] at h2
  have w1 := readP_w ha
  have w2 := readP_w hb
  refine ⟨pa ++ [readP a k], pb ++ [readP b k], by simpa using h1, by rw [he]; simpa using h2, by simp [h3], by simp [h4], by simp [h5, hw], by omega, by rw [he]; omega⟩
theorem Sh.done {a b : List UInt8} {n k : Nat} (h : Sh a b n k) (hs : k = a.length ∨ k = b.length ∨ wt a (readP a k) ≠ wt b (readP b k)) :
    n = cm ((pieces a).map (wt a)) ((pieces b).map (wt b)) ∧ cmpL ((pieces a).map (wt a)) ((pieces b).map (wt b)) = if k = a.length ∧ k = b.length then 0 else if k = a.length then -1 else if k = b.length then 1 else if wt a (readP a k) < wt b (readP b k) then -1 else 1 := by
  obtain ⟨pa, pb, h1, h2, h3, h4, h5, h6, h7⟩ := h
  rw [h1, h2, List.map_append, List.map_append, ← h5, cm_pre, cmpL_pre, List.length_map, h3]
  rcases Nat.lt_or_eq_of_le h6 with ha | ha
  · rw [from_cons ha]
    rcases Nat.lt_or_eq_of_le h7 with hb | hb
    · rw [from_cons hb]
      have hne : wt a (readP a k) ≠ wt b (readP b k) := by omega
      simp only [List.map_cons, cm, cmpL, if_neg hne]
      refine ⟨by omega, ?_⟩
      simp [show ¬ k = a.length by omega, show ¬ k = b.length by omega]
    · rw [from_nil (l := b) (k := k) (by omega)]
      simp only [List.map_cons, List.map_nil, cm, cmpL]
      refine ⟨by omega, ?_⟩
      rw [if_neg (by omega), if_neg (by omega), if_pos hb]
  · rw [from_nil (l := a) (k := k) (by omega)]
    rcases Nat.lt_or_eq_of_le h7 with hb | hb
    · rw [from_cons hb]
      simp only [List.map_cons, List.map_nil, cm, cmpL]
      refine ⟨by omega, ?_⟩
      rw [if_neg (by omega), if_pos ha]
    · rw [from_nil (l := b) (k := k) (by omega)]
      simp only [List.map_nil, cm, cmpL]
      refine ⟨by omega, ?_⟩
      rw [if_pos ⟨ha, hb⟩]
/-- the place of a rune's first piece -/
def idx : List Pc → Int → Int
  | [], _ => -1
  | p :: ps, r => if (p.r : Int) = r ∧ p.b = false then (p.at_ : Int) else idx ps r
def noIdx (ps : List Pc) (r : Int) : Prop := ∀ p ∈ ps, ¬ ((p.r : Int) = r ∧ p.b = false)
end Go.Eng

/-
  Plain facts on the pieces of a text, fourth part: the boundaries as a row of numbers, and the ones next to a place. No condition.
-/
set_option linter.all false
namespace Go.Eng
open Go
set_option linter.all false
/-- the boundaries of a text -/
def endsOf (l : List UInt8) : List Nat := (pieces l).map Pc.at_ ++ [l.length]
def leOf (k : Nat) : List Nat → Nat → Nat
  | [], a => a
  | x :: xs, a => leOf k xs (if x ≤ k then x else a)
def geOf (k : Nat) : List Nat → Nat → Nat
  | [], a => a
  | x :: xs, a => if k ≤ x then x else geOf k xs a
end Go.Eng

/-
  Plain facts: pieces of a text's beginning; a text's pieces as texts; from the end on. No condition.
-/
set_option linter.all false
namespace Go.Eng
open Go
theorem begins_take {l : List UInt8} {c n : Nat} (h : begins (l.take n) c) : begins l c := by
  obtain ⟨h1, h2⟩ := h
  simp only [List.length_take] at h1
  refine ⟨by omega, fun k hk => ?_⟩
  rw [← h2 k hk]
  simp only [nb, gb, List.getD_eq_getElem?_getD, List.length_take]
  rw [List.getElem?_take_of_lt (by omega)]
theorem begins_of_take {l : List UInt8} {c n : Nat} (h : begins l c) (hn : wd c ≤ n) : begins (l.take n) c := by
  obtain ⟨h1, h2⟩ := h
  refine ⟨by simp only [List.length_take]; omega, fun k hk => ?_⟩
  rw [← h2 k hk]
  simp only [nb, gb, List.getD_eq_getElem?_getD, List.length_take]
  rw [List.getElem?_take_of_lt (by omega)]
theorem read_take {l : List UInt8} {k n : Nat} (hk : k + (readP l k).w ≤ n) (hn : n ≤ l.length) (hkl : k < l.length) : readP (l.take n) k = readP l k := by
  have hw := readP_w hkl
  have hd : (l.take n).drop k = (l.drop k).take (n - k) := by rw [List.drop_take]
  have hlen : ((l.drop k).take (n - k)).length = n - k := by simp; omega
  have key : dl ((l.drop k).take (n - k)) = dl (l.drop k) := by
    rcases dl_cases (l.drop k) (by simp; omega) with ⟨h1, h2, h3⟩ | ⟨h1, h2⟩
    · have hwd : (readP l k).w = wd (dl (l.drop k)).1 := by rw [readP_w_eq, h2]
      rw [dl_of_begins h1 (begins_of_take h3 (by omega)), ← h2]
    · rw [h1]
      rcases dl_cases ((l.drop k).take (n - k)) (by omega) with ⟨g1, _, g3⟩ | ⟨g1, _⟩
      · exact absurd (begins_take g3) (h2 _ g1)
      · exact g1
  unfold readP
  rw [hd, key]
theorem from_take {l : List UInt8} {n : Nat} (hn : n ≤ l.length) : ∀ (pre : List Pc) (k : Nat), from_ l k = pre ++ from_ l n → k ≤ n → from_ (l.take n) k = pre
  | [], k, h, hk => by
    rcases Nat.lt_or_eq_of_le hk with hlt | rfl
    · exfalso
      simp only [List.nil_append] at h
      rw [from_cons (by omega)] at h
      by_cases hnl : n < l.length
      · rw [from_cons hnl] at h
        have := congrArg (fun x => (x.head?.map Pc.at_)) h
        simp only [List.head?_cons, Option.map_some, readP_at, Option.some.injEq] at this
        omega
      · rw [from_nil (k := n) hnl] at h; cases h
    · rw [from_nil (by simp; omega)]
  | p :: pre, k, h, hk => by
    have hkl : k < l.length := by
      rcases Nat.lt_or_ge k l.length with h1 | h1
      · exact h1
      · rw [from_nil (by omega)] at h; cases h
    rw [from_cons hkl, List.cons_append] at h
    simp only [List.cons.injEq] at h
    obtain ⟨rfl, h⟩ := h
    have hw := readP_w hkl
    have hle : k + (readP l k).w ≤ n := by
      rcases Nat.lt_or_ge n (k + (readP l k).w) with hlt | hge
      · exfalso
        -- no piece behind k begins at n
        rcases Nat.lt_or_eq_of_le hn with hnl | hnl
        · have hm : readP l n ∈ from_ l (k + (readP l k).w) := by rw [h, from_cons hnl]; exact List.mem_append_right _ List.mem_cons_self
          obtain ⟨A, B, e⟩ := List.append_of_mem hm
          have := (from_split l l.length _ (by omega) _ _ _ e).1
          rw [readP_at] at this; omega
        · omega
      · exact hge
    have hlt : k < (l.take n).length := by simp; omega
    rw [from_cons hlt, read_take hle hn hkl, from_take hn pre _ h hle]
theorem pieces_take {l : List UInt8} {n : Nat} {pre : List Pc} (hn : n ≤ l.length) (h : pieces l = pre ++ from_ l n) : pieces (l.take n) = pre := from_take hn pre 0 h (Nat.zero_le _)
/-- a piece's bytes -/
def txt (l : List UInt8) (p : Pc) : List UInt8 := (l.take (p.at_ + p.w)).drop p.at_
theorem mem_w {l : List UInt8} {p : Pc} (h : p ∈ pieces l) : p.at_ < l.length ∧ 1 ≤ p.w ∧ p.w ≤ 4 ∧ p.at_ + p.w ≤ l.length := by
  obtain ⟨_, h2, h3⟩ := reach_of_mem h
  have := readP_w h2
  rw [← h3] at this
  omega
def mendOf (l w : List UInt8) (ps : List Pc) : List UInt8 := ps.flatMap fun p => if p.b then w else txt l p
def textsOf (l : List UInt8) (ps : List Pc) : List UInt8 := ps.flatMap (txt l)
/-- where the first so many pieces end -/
def cutK (l : List UInt8) (n : Int) : Nat := if n ≤ 0 then 0 else (endsOf l).getD n.toNat l.length
end Go.Eng

/-
  Plain facts: the pieces so far are the text's beginning; places within a form. No condition.
-/
set_option linter.all false
namespace Go.Eng
open Go
end Go.Eng

/-
  Plain facts on pieces: their order, and the pieces of a text's end. No condition.
-/
set_option linter.all false
namespace Go.Eng
open Go
theorem readP_drop (l : List UInt8) (n k : Nat) : readP (l.drop n) k = ⟨k, (readP l (n + k)).w, (readP l (n + k)).r, (readP l (n + k)).b⟩ := by
  unfold readP
  rw [List.drop_drop]
  split <;> rfl
/-- a piece, told from further on -/
def Pc.sub (p : Pc) (n : Nat) : Pc := ⟨p.at_ - n, p.w, p.r, p.b⟩
theorem from_drop (l : List UInt8) (n : Nat) : ∀ (d k : Nat), l.length - (n + k) ≤ d → from_ (l.drop n) k = (from_ l (n + k)).map fun p => p.sub n
  | d, k, h => by
    by_cases hk : n + k < l.length
    · have hw := readP_w hk
      rw [from_cons (show k < (l.drop n).length by rw [List.length_drop]; omega), from_cons hk, List.map_cons]
      have e : readP (l.drop n) k = (readP l (n + k)).sub n := by
        rw [readP_drop, Pc.sub, readP_at]
        congr 1; omega
      rw [e]
      congr 1
      cases d with
      | zero => omega
      | succ d =>
        have := from_drop l n d (k + (readP l (n + k)).w) (by omega)
        rw [show ((readP l (n + k)).sub n).w = (readP l (n + k)).w from rfl, this]
        congr 2; omega
    · rw [from_nil (show ¬ k < (l.drop n).length by rw [List.length_drop]; omega), from_nil hk]; rfl
theorem pieces_drop (l : List UInt8) (n : Nat) : pieces (l.drop n) = (from_ l n).map fun p => p.sub n := from_drop l n _ 0 (Nat.le_refl _)
end Go.Eng

/-
  Plain facts on kinds of runes, columns, and the clusters of a text. No condition.
-/
namespace Go.Eng
open Go
/-- letters, as the document has them -/
def Great (r : Nat) : Prop := (65 ≤ r ∧ r ≤ 90) ∨ (192 ≤ r ∧ r ≤ 222 ∧ r ≠ 215) ∨ ((256 ≤ r ∧ r ≤ 311 ∨ 330 ≤ r ∧ r ≤ 375) ∧ r % 2 = 0) ∨ (313 ≤ r ∧ r ≤ 328 ∧ r % 2 = 1) ∨ r = 376 ∨ (377 ≤ r ∧ r ≤ 381 ∧ r % 2 = 1) ∨
  (902 ≤ r ∧ r ≤ 911 ∧ r ≠ 903 ∧ r ≠ 907 ∧ r ≠ 909) ∨ (913 ≤ r ∧ r ≤ 939 ∧ r ≠ 930) ∨ (1024 ≤ r ∧ r ≤ 1071)
def Small (r : Nat) : Prop := (97 ≤ r ∧ r ≤ 122) ∨ (223 ≤ r ∧ r ≤ 255 ∧ r ≠ 247) ∨ ((256 ≤ r ∧ r ≤ 311 ∨ 330 ≤ r ∧ r ≤ 375) ∧ r % 2 = 1) ∨ (313 ≤ r ∧ r ≤ 328 ∧ r % 2 = 0) ∨ r = 312 ∨ r = 329 ∨ r = 383 ∨ r = 912 ∨ (378 ≤ r ∧ r ≤ 382 ∧ r % 2 = 0) ∨
  (940 ≤ r ∧ r ≤ 974) ∨ (1072 ≤ r ∧ r ≤ 1119)
instance (r : Nat) : Decidable (Great r) := by unfold Great; infer_instance
instance (r : Nat) : Decidable (Small r) := by unfold Small; infer_instance
def Blank (r : Nat) : Prop := r = 9 ∨ r = 32 ∨ r = 160 ∨ r = 8239 ∨ r = 8287 ∨ r = 12288 ∨ (8192 ≤ r ∧ r ≤ 8202)
def Dash (r : Nat) : Prop := r = 45 ∨ (8208 ≤ r ∧ r ≤ 8213)
def Quote (r : Nat) : Prop := r = 34 ∨ r = 39 ∨ r = 171 ∨ r = 187 ∨ r = 8249 ∨ r = 8250 ∨ (8216 ≤ r ∧ r ≤ 8223)
def Point (r : Nat) : Prop := r = 33 ∨ r = 44 ∨ r = 46 ∨ r = 58 ∨ r = 59 ∨ r = 63 ∨ r = 161 ∨ r = 183 ∨ r = 191 ∨ r = 8230
def Ctl (r : Nat) : Prop := r < 32 ∨ (127 ≤ r ∧ r ≤ 159) ∨ (8203 ≤ r ∧ r ≤ 8207) ∨ r = 65279
instance (r : Nat) : Decidable (Blank r) := by unfold Blank; infer_instance
instance (r : Nat) : Decidable (Dash r) := by unfold Dash; infer_instance
instance (r : Nat) : Decidable (Quote r) := by unfold Quote; infer_instance
instance (r : Nat) : Decidable (Point r) := by unfold Point; infer_instance
instance (r : Nat) : Decidable (Ctl r) := by unfold Ctl; infer_instance
/-- a rune's kind -/
def kindN (r : Nat) : Nat :=
  if Great r ∨ Small r then 1 else if 768 ≤ r ∧ r ≤ 879 then 2 else if 48 ≤ r ∧ r ≤ 57 then 3 else if r = 10 ∨ r = 13 then 4
  else if Blank r then 5 else if Dash r then 6 else if Quote r then 7 else if Point r then 8 else if Ctl r then 9 else 10
/-- a piece's kind -/
def kindP (p : Pc) : Nat := if p.b then 11 else kindN p.r
def Wide (r : Nat) : Prop := (4352 ≤ r ∧ r ≤ 4447) ∨ (11904 ≤ r ∧ r ≤ 12350) ∨ (12353 ≤ r ∧ r ≤ 19903) ∨ (19968 ≤ r ∧ r ≤ 42191) ∨ (44032 ≤ r ∧ r ≤ 55203) ∨ (63744 ≤ r ∧ r ≤ 64255) ∨ (65072 ≤ r ∧ r ≤ 65135) ∨ (65280 ≤ r ∧ r ≤ 65376) ∨ (65504 ≤ r ∧ r ≤ 65510) ∨
  (127744 ≤ r ∧ r ≤ 128591) ∨ (129280 ≤ r ∧ r ≤ 129535) ∨ (131072 ≤ r ∧ r ≤ 262141)
instance (r : Nat) : Decidable (Wide r) := by unfold Wide; infer_instance
/-- a piece's columns -/
def colP (p : Pc) : Nat := if kindP p = 11 then 1 else if kindP p = 2 ∨ kindP p = 4 ∨ kindP p = 9 then 0 else if Wide p.r then 2 else 1
/-- a cluster -/
structure Cl where
  a : Nat
  z : Nat
  c : Nat
  deriving DecidableEq
def Cl.cs (c : Cl) : List Value := [.int .i64 (c.a : Int), .int .i64 (c.z : Int), .int .i64 (c.c : Int)]
def Cl.v (c : Cl) : Value := .agg c.cs.toArray
/-- is a piece taken by a cluster whose head is of a kind, behind another piece? -/
def Joins (h : Nat) (q p : Pc) : Prop := p.b = false ∧ (kindP p = 2 ∨ p.r = 8205 ∨ (h = 10 ∧ kindP p = 10 ∧ q.r = 8205))
def Glue (h : Nat) (q p : Pc) : Prop := (q.r = 13 ∧ p.r = 10) ∨ ((h ≠ 11 ∧ h ≠ 4 ∧ h ≠ 9) ∧ Joins h q p)
instance (h : Nat) (q p : Pc) : Decidable (Joins h q p) := by unfold Joins; infer_instance
instance (h : Nat) (q p : Pc) : Decidable (Glue h q p) := by unfold Glue; infer_instance
def Cl.ext (c : Cl) (p : Pc) : Cl := ⟨c.a, p.at_ + p.w, max c.c (colP p)⟩
def headC (p : Pc) : Cl := ⟨p.at_, p.at_ + p.w, colP p⟩
/-- the clusters of pieces, behind a cluster that is open -/
def clGo : Option (Cl × Nat × Pc) → List Pc → List Cl
  | none, [] => []
  | some s, [] => [s.1]
  | none, p :: ps => clGo (some (headC p, kindP p, p)) ps
  | some s, p :: ps => if Glue s.2.1 s.2.2 p then clGo (some (s.1.ext p, s.2.1, p)) ps else s.1 :: clGo (some (headC p, kindP p, p)) ps
def clusters (l : List UInt8) : List Cl := clGo none (pieces l)
theorem kind_letter {r : Nat} (h : Great r ∨ Small r) : kindN r = 1 := if_pos h
theorem kind_spec {r : Nat} (h : ¬ (Great r ∨ Small r)) : (768 ≤ r ∧ r ≤ 879 ∧ kindN r = 2) ∨ (48 ≤ r ∧ r ≤ 57 ∧ kindN r = 3) ∨ ((r = 10 ∨ r = 13) ∧ kindN r = 4) ∨ (Blank r ∧ kindN r = 5) ∨ (Dash r ∧ kindN r = 6) ∨ (Quote r ∧ kindN r = 7) ∨ (Point r ∧ kindN r = 8) ∨ (Ctl r ∧ r ≠ 9 ∧ r ≠ 10 ∧ r ≠ 13 ∧ kindN r = 9) ∨
    (¬ (768 ≤ r ∧ r ≤ 879) ∧ ¬ (48 ≤ r ∧ r ≤ 57) ∧ ¬ (r = 10 ∨ r = 13) ∧ ¬ Blank r ∧ ¬ Dash r ∧ ¬ Quote r ∧ ¬ Point r ∧ ¬ Ctl r ∧ kindN r = 10) := by
  unfold kindN
  rw [if_neg h]
  by_cases h2 : 768 ≤ r ∧ r ≤ 879
  · rw [if_pos h2]; exact .inl ⟨h2.1, h2.2, rfl⟩
  rw [if_neg h2]
  by_cases h3 : 48 ≤ r ∧ r ≤ 57
  · rw [if_pos h3]; exact .inr (.inl ⟨h3.1, h3.2, rfl⟩)
  rw [if_neg h3]
  by_cases h4 : r = 10 ∨ r = 13
  · rw [if_pos h4]; exact .inr (.inr (.inl ⟨h4, rfl⟩))
  rw [if_neg h4]
  by_cases h5 : Blank r
  · rw [if_pos h5]; exact .inr (.inr (.inr (.inl ⟨h5, rfl⟩)))
  rw [if_neg h5]
  by_cases h6 : Dash r
  · rw [if_pos h6]; exact .inr (.inr (.inr (.inr (.inl ⟨h6, rfl⟩))))
  rw [if_neg h6]
  by_cases h7 : Quote r
  · rw [if_pos h7]; exact .inr (.inr (.inr (.inr (.inr (.inl ⟨h7, rfl⟩)))))
  rw [if_neg h7]
  by_cases h8 : Point r
  · rw [if_pos h8]; exact .inr (.inr (.inr (.inr (.inr (.inr (.inl ⟨h8, rfl⟩))))))
  rw [if_neg h8]
  by_cases h9 : Ctl r
  · rw [if_pos h9]; exact .inr (.inr (.inr (.inr (.inr (.inr (.inr (.inl ⟨h9, fun e => h5 (.inl e), fun e => h4 (.inl e), fun e => h4 (.inr e), rfl⟩)))))))
  rw [if_neg h9]
  exact .inr (.inr (.inr (.inr (.inr (.inr (.inr (.inr ⟨h2, h3, h4, h5, h6, h7, h8, h9, rfl⟩)))))))
theorem kindP_b {p : Pc} (h : p.b = true) : kindP p = 11 := by unfold kindP; rw [if_pos h]
theorem kindP_r {p : Pc} (h : p.b = false) : kindP p = kindN p.r := by unfold kindP; rw [h]; rfl
/-- how many pieces a cluster takes behind its head -/
def runC : Nat → Pc → List Pc → Nat
  | _, _, [] => 0
  | h, q, p :: ps => if Glue h q p then runC h p ps + 1 else 0
end Go.Eng

/-
  The walks of package class: kinds of runes. No condition.
-/
namespace Go.Proofs.Ytgckeelnhafgaaa
open Go Go.Eng
set_option maxRecDepth 100000
set_option maxHeartbeats 4000000
set_option linter.all false
attribute [local irreducible] WL WC WQ QFun QLoop Does Q1 QRound QAssign Go.Addr.add
attribute [local irreducible] Great Small Blank Dash Quote Point Ctl Wide kindN
theorem sq_C1_1 {G : Prop} (h : G := by (repeat (first | (refine sp ?_; (repeat intro zzc)) | (refine WL.and32 rfl rfl rfl (by omega) ?_))); exact WQ.q1 rfl) : G := h
theorem st_C1_1 {G G' : Prop} (next : G') (h : Bx G' → G := by intro zzn; (first | ((refine st ?_; (repeat intro zzc)); (try ((first | (refine WL.and32 rfl rfl rfl (by omega) ?_) | ((refine iDraw ?_; (first | refine WC.drawAll rfl (by decide +kernel) ?_ | refine WC.draw 1 rfl (by decide +kernel) ?_ | refine WC.draw 2 rfl (by decide +kernel) ?_ | refine WC.draw 3 rfl (by decide +kernel) ?_ | refine WC.draw 4 rfl (by decide +kernel) ?_ | refine WC.draw 5 rfl (by decide +kernel) ?_ | refine WC.draw 6 rfl (by decide +kernel) ?_ | refine WC.draw 7 rfl (by decide +kernel) ?_ | refine WC.draw 8 rfl (by decide +kernel) ?_ | refine WC.draw 9 rfl (by decide +kernel) ?_ | refine WC.draw 10 rfl (by decide +kernel) ?_ | refine WC.draw 11 rfl (by decide +kernel) ?_ | refine WC.draw 12 rfl (by decide +kernel) ?_ | refine WC.draw 13 rfl (by decide +kernel) ?_ | refine WC.draw 14 rfl (by decide +kernel) ?_ | refine WC.draw 15 rfl (by decide +kernel) ?_ | refine WC.draw 16 rfl (by decide +kernel) ?_ | refine WC.draw 17 rfl (by decide +kernel) ?_ | refine WC.draw 18 rfl (by decide +kernel) ?_ | refine WC.draw 19 rfl (by decide +kernel) ?_ | refine WC.draw 20 rfl (by decide +kernel) ?_ | refine WC.draw 21 rfl (by decide +kernel) ?_ | refine WC.draw 22 rfl (by decide +kernel) ?_ | refine WC.draw 23 rfl (by decide +kernel) ?_ | refine WC.draw 24 rfl (by decide +kernel) ?_)); (repeat (refine WD.cons rfl (fun c h => by cases h) sq_C1_1 ?_)); refine WD.nil ?_)); (try (refine st ?_; (repeat intro zzc)))))) | ((first | (refine WL.and32 rfl rfl rfl (by omega) ?_) | ((refine iDraw ?_; (first | refine WC.drawAll rfl (by decide +kernel) ?_ | refine WC.draw 1 rfl (by decide +kernel) ?_ | refine WC.draw 2 rfl (by decide +kernel) ?_ | refine WC.draw 3 rfl (by decide +kernel) ?_ | refine WC.draw 4 rfl (by decide +kernel) ?_ | refine WC.draw 5 rfl (by decide +kernel) ?_ | refine WC.draw 6 rfl (by decide +kernel) ?_ | refine WC.draw 7 rfl (by decide +kernel) ?_ | refine WC.draw 8 rfl (by decide +kernel) ?_ | refine WC.draw 9 rfl (by decide +kernel) ?_ | refine WC.draw 10 rfl (by decide +kernel) ?_ | refine WC.draw 11 rfl (by decide +kernel) ?_ | refine WC.draw 12 rfl (by decide +kernel) ?_ | refine WC.draw 13 rfl (by decide +kernel) ?_ | refine WC.draw 14 rfl (by decide +kernel) ?_ | refine WC.draw 15 rfl (by decide +kernel) ?_ | refine WC.draw 16 rfl (by decide +kernel) ?_ | refine WC.draw 17 rfl (by decide +kernel) ?_ | refine WC.draw 18 rfl (by decide +kernel) ?_ | refine WC.draw 19 rfl (by decide +kernel) ?_ | refine WC.draw 20 rfl (by decide +kernel) ?_ | refine WC.draw 21 rfl (by decide +kernel) ?_ | refine WC.draw 22 rfl (by decide +kernel) ?_ | refine WC.draw 23 rfl (by decide +kernel) ?_ | refine WC.draw 24 rfl (by decide +kernel) ?_)); (repeat (refine WD.cons rfl (fun c h => by cases h) sq_C1_1 ?_)); refine WD.nil ?_)); (try (refine st ?_; (repeat intro zzc))))); (repeat ((first | (refine WL.and32 rfl rfl rfl (by omega) ?_) | ((refine iDraw ?_; (first | refine WC.drawAll rfl (by decide +kernel) ?_ | refine WC.draw 1 rfl (by decide +kernel) ?_ | refine WC.draw 2 rfl (by decide +kernel) ?_ | refine WC.draw 3 rfl (by decide +kernel) ?_ | refine WC.draw 4 rfl (by decide +kernel) ?_ | refine WC.draw 5 rfl (by decide +kernel) ?_ | refine WC.draw 6 rfl (by decide +kernel) ?_ | refine WC.draw 7 rfl (by decide +kernel) ?_ | refine WC.draw 8 rfl (by decide +kernel) ?_ | refine WC.draw 9 rfl (by decide +kernel) ?_ | refine WC.draw 10 rfl (by decide +kernel) ?_ | refine WC.draw 11 rfl (by decide +kernel) ?_ | refine WC.draw 12 rfl (by decide +kernel) ?_ | refine WC.draw 13 rfl (by decide +kernel) ?_ | refine WC.draw 14 rfl (by decide +kernel) ?_ | refine WC.draw 15 rfl (by decide +kernel) ?_ | refine WC.draw 16 rfl (by decide +kernel) ?_ | refine WC.draw 17 rfl (by decide +kernel) ?_ | refine WC.draw 18 rfl (by decide +kernel) ?_ | refine WC.draw 19 rfl (by decide +kernel) ?_ | refine WC.draw 20 rfl (by decide +kernel) ?_ | refine WC.draw 21 rfl (by decide +kernel) ?_ | refine WC.draw 22 rfl (by decide +kernel) ?_ | refine WC.draw 23 rfl (by decide +kernel) ?_ | refine WC.draw 24 rfl (by decide +kernel) ?_)); (repeat (refine WD.cons rfl (fun c h => by cases h) sq_C1_1 ?_)); refine WD.nil ?_)); (try (refine st ?_; (repeat intro zzc))))); (repeat revert zzc); exact zzn.out) : G := h ⟨next⟩
theorem even_any (r : Nat) (hr : r ≤ 1114111) (w0 : World) (m : Mem) (H : SHeap) : Does Try.prog 97 #[.int .i32 (r : Int)] w0 m H (Gives (.bool (dcd (r % 2 = 0))) m H) := by
  refine Does.of_body (args := [.int .i32 (r : Int)]) Try.func97 rfl Try.ntmps97 rfl ?_
  (try (refine st_C1_1 ?_; intros))
  (refine q_fin0 ?_)
  exact Gives.mk (congrArg _ (dcd_cong (by omega)))
theorem sq_C1_2 {G : Prop} (h : G := by (repeat (first | (refine sp ?_; (repeat intro zzc)) | (refine WL.and32 rfl rfl rfl (by omega) ?_) | (refine iF 97 rfl ?_; refine w_callG Try.func97 ?_ (hs := even_any _ (by omega) _ _ _)))); exact WQ.q1 rfl) : G := h
theorem st_C1_2 {G G' : Prop} (next : G') (h : Bx G' → G := by intro zzn; (first | ((refine st ?_; (repeat intro zzc)); (try ((first | (refine WL.and32 rfl rfl rfl (by omega) ?_) | (refine iF 97 rfl ?_; refine w_callG Try.func97 ?_ (hs := even_any _ (by omega) _ _ _)) | ((refine iDraw ?_; (first | refine WC.drawAll rfl (by decide +kernel) ?_ | refine WC.draw 1 rfl (by decide +kernel) ?_ | refine WC.draw 2 rfl (by decide +kernel) ?_ | refine WC.draw 3 rfl (by decide +kernel) ?_ | refine WC.draw 4 rfl (by decide +kernel) ?_ | refine WC.draw 5 rfl (by decide +kernel) ?_ | refine WC.draw 6 rfl (by decide +kernel) ?_ | refine WC.draw 7 rfl (by decide +kernel) ?_ | refine WC.draw 8 rfl (by decide +kernel) ?_ | refine WC.draw 9 rfl (by decide +kernel) ?_ | refine WC.draw 10 rfl (by decide +kernel) ?_ | refine WC.draw 11 rfl (by decide +kernel) ?_ | refine WC.draw 12 rfl (by decide +kernel) ?_ | refine WC.draw 13 rfl (by decide +kernel) ?_ | refine WC.draw 14 rfl (by decide +kernel) ?_ | refine WC.draw 15 rfl (by decide +kernel) ?_ | refine WC.draw 16 rfl (by decide +kernel) ?_ | refine WC.draw 17 rfl (by decide +kernel) ?_ | refine WC.draw 18 rfl (by decide +kernel) ?_ | refine WC.draw 19 rfl (by decide +kernel) ?_ | refine WC.draw 20 rfl (by decide +kernel) ?_ | refine WC.draw 21 rfl (by decide +kernel) ?_ | refine WC.draw 22 rfl (by decide +kernel) ?_ | refine WC.draw 23 rfl (by decide +kernel) ?_ | refine WC.draw 24 rfl (by decide +kernel) ?_)); (repeat (refine WD.cons rfl (fun c h => by cases h) sq_C1_2 ?_)); refine WD.nil ?_)); (try (refine st ?_; (repeat intro zzc)))))) | ((first | (refine WL.and32 rfl rfl rfl (by omega) ?_) | (refine iF 97 rfl ?_; refine w_callG Try.func97 ?_ (hs := even_any _ (by omega) _ _ _)) | ((refine iDraw ?_; (first | refine WC.drawAll rfl (by decide +kernel) ?_ | refine WC.draw 1 rfl (by decide +kernel) ?_ | refine WC.draw 2 rfl (by decide +kernel) ?_ | refine WC.draw 3 rfl (by decide +kernel) ?_ | refine WC.draw 4 rfl (by decide +kernel) ?_ | refine WC.draw 5 rfl (by decide +kernel) ?_ | refine WC.draw 6 rfl (by decide +kernel) ?_ | refine WC.draw 7 rfl (by decide +kernel) ?_ | refine WC.draw 8 rfl (by decide +kernel) ?_ | refine WC.draw 9 rfl (by decide +kernel) ?_ | refine WC.draw 10 rfl (by decide +kernel) ?_ | refine WC.draw 11 rfl (by decide +kernel) ?_ | refine WC.draw 12 rfl (by decide +kernel) ?_ | refine WC.draw 13 rfl (by decide +kernel) ?_ | refine WC.draw 14 rfl (by decide +kernel) ?_ | refine WC.draw 15 rfl (by decide +kernel) ?_ | refine WC.draw 16 rfl (by decide +kernel) ?_ | refine WC.draw 17 rfl (by decide +kernel) ?_ | refine WC.draw 18 rfl (by decide +kernel) ?_ | refine WC.draw 19 rfl (by decide +kernel) ?_ | refine WC.draw 20 rfl (by decide +kernel) ?_ | refine WC.draw 21 rfl (by decide +kernel) ?_ | refine WC.draw 22 rfl (by decide +kernel) ?_ | refine WC.draw 23 rfl (by decide +kernel) ?_ | refine WC.draw 24 rfl (by decide +kernel) ?_)); (repeat (refine WD.cons rfl (fun c h => by cases h) sq_C1_2 ?_)); refine WD.nil ?_)); (try (refine st ?_; (repeat intro zzc))))); (repeat ((first | (refine WL.and32 rfl rfl rfl (by omega) ?_) | (refine iF 97 rfl ?_; refine w_callG Try.func97 ?_ (hs := even_any _ (by omega) _ _ _)) | ((refine iDraw ?_; (first | refine WC.drawAll rfl (by decide +kernel) ?_ | refine WC.draw 1 rfl (by decide +kernel) ?_ | refine WC.draw 2 rfl (by decide +kernel) ?_ | refine WC.draw 3 rfl (by decide +kernel) ?_ | refine WC.draw 4 rfl (by decide +kernel) ?_ | refine WC.draw 5 rfl (by decide +kernel) ?_ | refine WC.draw 6 rfl (by decide +kernel) ?_ | refine WC.draw 7 rfl (by decide +kernel) ?_ | refine WC.draw 8 rfl (by decide +kernel) ?_ | refine WC.draw 9 rfl (by decide +kernel) ?_ | refine WC.draw 10 rfl (by decide +kernel) ?_ | refine WC.draw 11 rfl (by decide +kernel) ?_ | refine WC.draw 12 rfl (by decide +kernel) ?_ | refine WC.draw 13 rfl (by decide +kernel) ?_ | refine WC.draw 14 rfl (by decide +kernel) ?_ | refine WC.draw 15 rfl (by decide +kernel) ?_ | refine WC.draw 16 rfl (by decide +kernel) ?_ | refine WC.draw 17 rfl (by decide +kernel) ?_ | refine WC.draw 18 rfl (by decide +kernel) ?_ | refine WC.draw 19 rfl (by decide +kernel) ?_ | refine WC.draw 20 rfl (by decide +kernel) ?_ | refine WC.draw 21 rfl (by decide +kernel) ?_ | refine WC.draw 22 rfl (by decide +kernel) ?_ | refine WC.draw 23 rfl (by decide +kernel) ?_ | refine WC.draw 24 rfl (by decide +kernel) ?_)); (repeat (refine WD.cons rfl (fun c h => by cases h) sq_C1_2 ?_)); refine WD.nil ?_)); (try (refine st ?_; (repeat intro zzc))))); (repeat revert zzc); exact zzn.out) : G := h ⟨next⟩
theorem great_any (r : Nat) (hr : r ≤ 1114111) (w0 : World) (m : Mem) (H : SHeap) : Does Try.prog 94 #[.int .i32 (r : Int)] w0 m H (Gives (.bool (dcd (Great r))) m H) := by
  refine Does.of_body (args := [.int .i32 (r : Int)]) Try.func94 rfl Try.ntmps94 rfl ?_
  (repeat' (first | (refine st_C1_2 ?_; intros) | (first | refine c_ways (fun h1 => ?_) (fun h1 => ?_) | refine c_nways (fun h1 => ?_) (fun h1 => ?_) | refine w_gways (fun h1 => ?_) (fun h1 => ?_) | refine w_gnways (fun h1 => ?_) (fun h1 => ?_))))
  all_goals ((refine q_fin0 ?_); refine Gives.mk (congrArg _ ?_))
  all_goals first | (refine tru_iff ?_; unfold Great; omega) | (refine fls_iff ?_; unfold Great; omega) | (refine dcd_cong ?_; unfold Great; omega) | (rw [dcd_not]; refine dcd_cong ?_; unfold Great; omega)
theorem small_any (r : Nat) (hr : r ≤ 1114111) (w0 : World) (m : Mem) (H : SHeap) : Does Try.prog 95 #[.int .i32 (r : Int)] w0 m H (Gives (.bool (dcd (Small r))) m H) := by
  refine Does.of_body (args := [.int .i32 (r : Int)]) Try.func95 rfl Try.ntmps95 rfl ?_
  (repeat' (first | (refine st_C1_2 ?_; intros) | (first | refine c_ways (fun h1 => ?_) (fun h1 => ?_) | refine c_nways (fun h1 => ?_) (fun h1 => ?_) | refine w_gways (fun h1 => ?_) (fun h1 => ?_) | refine w_gnways (fun h1 => ?_) (fun h1 => ?_))))
  all_goals ((refine q_fin0 ?_); refine Gives.mk (congrArg _ ?_))
  all_goals first | (refine tru_iff ?_; unfold Small; omega) | (refine fls_iff ?_; unfold Small; omega) | (refine dcd_cong ?_; unfold Small; omega) | (rw [dcd_not]; refine dcd_cong ?_; unfold Small; omega)
theorem sq_C1_3 {G : Prop} (h : G := by (repeat (first | (refine sp ?_; (repeat intro zzc)) | (refine WL.and32 rfl rfl rfl (by omega) ?_) | (refine iF 97 rfl ?_; refine w_callG Try.func97 ?_ (hs := even_any _ (by omega) _ _ _)) | (refine iF 94 rfl ?_; refine w_callG Try.func94 ?_ (hs := great_any _ (by omega) _ _ _)) | (refine iF 95 rfl ?_; refine w_callG Try.func95 ?_ (hs := small_any _ (by omega) _ _ _)))); exact WQ.q1 rfl) : G := h
theorem st_C1_3 {G G' : Prop} (next : G') (h : Bx G' → G := by intro zzn; (first | ((refine st ?_; (repeat intro zzc)); (try ((first | (refine WL.and32 rfl rfl rfl (by omega) ?_) | (refine iF 97 rfl ?_; refine w_callG Try.func97 ?_ (hs := even_any _ (by omega) _ _ _)) | (refine iF 94 rfl ?_; refine w_callG Try.func94 ?_ (hs := great_any _ (by omega) _ _ _)) | (refine iF 95 rfl ?_; refine w_callG Try.func95 ?_ (hs := small_any _ (by omega) _ _ _)) | ((refine iDraw ?_; (first | refine WC.drawAll rfl (by decide +kernel) ?_ | refine WC.draw 1 rfl (by decide +kernel) ?_ | refine WC.draw 2 rfl (by decide +kernel) ?_ | refine WC.draw 3 rfl (by decide +kernel) ?_ | refine WC.draw 4 rfl (by decide +kernel) ?_ | refine WC.draw 5 rfl (by decide +kernel) ?_ | refine WC.draw 6 rfl (by decide +kernel) ?_ | refine WC.draw 7 rfl (by decide +kernel) ?_ | refine WC.draw 8 rfl (by decide +kernel) ?_ | refine WC.draw 9 rfl (by decide +kernel) ?_ | refine WC.draw 10 rfl (by decide +kernel) ?_ | refine WC.draw 11 rfl (by decide +kernel) ?_ | refine WC.draw 12 rfl (by decide +kernel) ?_ | refine WC.draw 13 rfl (by decide +kernel) ?_ | refine WC.draw 14 rfl (by decide +kernel) ?_ | refine WC.draw 15 rfl (by decide +kernel) ?_ | refine WC.draw 16 rfl (by decide +kernel) ?_ | refine WC.draw 17 rfl (by decide +kernel) ?_ | refine WC.draw 18 rfl (by decide +kernel) ?_ | refine WC.draw 19 rfl (by decide +kernel) ?_ | refine WC.draw 20 rfl (by decide +kernel) ?_ | refine WC.draw 21 rfl (by decide +kernel) ?_ | refine WC.draw 22 rfl (by decide +kernel) ?_ | refine WC.draw 23 rfl (by decide +kernel) ?_ | refine WC.draw 24 rfl (by decide +kernel) ?_)); (repeat (refine WD.cons rfl (fun c h => by cases h) sq_C1_3 ?_)); refine WD.nil ?_)); (try (refine st ?_; (repeat intro zzc)))))) | ((first | (refine WL.and32 rfl rfl rfl (by omega) ?_) | (refine iF 97 rfl ?_; refine w_callG Try.func97 ?_ (hs := even_any _ (by omega) _ _ _)) | (refine iF 94 rfl ?_; refine w_callG Try.func94 ?_ (hs := great_any _ (by omega) _ _ _)) | (refine iF 95 rfl ?_; refine w_callG Try.func95 ?_ (hs := small_any _ (by omega) _ _ _)) | ((refine iDraw ?_; (first | refine WC.drawAll rfl (by decide +kernel) ?_ | refine WC.draw 1 rfl (by decide +kernel) ?_ | refine WC.draw 2 rfl (by decide +kernel) ?_ | refine WC.draw 3 rfl (by decide +kernel) ?_ | refine WC.draw 4 rfl (by decide +kernel) ?_ | refine WC.draw 5 rfl (by decide +kernel) ?_ | refine WC.draw 6 rfl (by decide +kernel) ?_ | refine WC.draw 7 rfl (by decide +kernel) ?_ | refine WC.draw 8 rfl (by decide +kernel) ?_ | refine WC.draw 9 rfl (by decide +kernel) ?_ | refine WC.draw 10 rfl (by decide +kernel) ?_ | refine WC.draw 11 rfl (by decide +kernel) ?_ | refine WC.draw 12 rfl (by decide +kernel) ?_ | refine WC.draw 13 rfl (by decide +kernel) ?_ | refine WC.draw 14 rfl (by decide +kernel) ?_ | refine WC.draw 15 rfl (by decide +kernel) ?_ | refine WC.draw 16 rfl (by decide +kernel) ?_ | refine WC.draw 17 rfl (by decide +kernel) ?_ | refine WC.draw 18 rfl (by decide +kernel) ?_ | refine WC.draw 19 rfl (by decide +kernel) ?_ | refine WC.draw 20 rfl (by decide +kernel) ?_ | refine WC.draw 21 rfl (by decide +kernel) ?_ | refine WC.draw 22 rfl (by decide +kernel) ?_ | refine WC.draw 23 rfl (by decide +kernel) ?_ | refine WC.draw 24 rfl (by decide +kernel) ?_)); (repeat (refine WD.cons rfl (fun c h => by cases h) sq_C1_3 ?_)); refine WD.nil ?_)); (try (refine st ?_; (repeat intro zzc))))); (repeat ((first | (refine WL.and32 rfl rfl rfl (by omega) ?_) | (refine iF 97 rfl ?_; refine w_callG Try.func97 ?_ (hs := even_any _ (by omega) _ _ _)) | (refine iF 94 rfl ?_; refine w_callG Try.func94 ?_ (hs := great_any _ (by omega) _ _ _)) | (refine iF 95 rfl ?_; refine w_callG Try.func95 ?_ (hs := small_any _ (by omega) _ _ _)) | ((refine iDraw ?_; (first | refine WC.drawAll rfl (by decide +kernel) ?_ | refine WC.draw 1 rfl (by decide +kernel) ?_ | refine WC.draw 2 rfl (by decide +kernel) ?_ | refine WC.draw 3 rfl (by decide +kernel) ?_ | refine WC.draw 4 rfl (by decide +kernel) ?_ | refine WC.draw 5 rfl (by decide +kernel) ?_ | refine WC.draw 6 rfl (by decide +kernel) ?_ | refine WC.draw 7 rfl (by decide +kernel) ?_ | refine WC.draw 8 rfl (by decide +kernel) ?_ | refine WC.draw 9 rfl (by decide +kernel) ?_ | refine WC.draw 10 rfl (by decide +kernel) ?_ | refine WC.draw 11 rfl (by decide +kernel) ?_ | refine WC.draw 12 rfl (by decide +kernel) ?_ | refine WC.draw 13 rfl (by decide +kernel) ?_ | refine WC.draw 14 rfl (by decide +kernel) ?_ | refine WC.draw 15 rfl (by decide +kernel) ?_ | refine WC.draw 16 rfl (by decide +kernel) ?_ | refine WC.draw 17 rfl (by decide +kernel) ?_ | refine WC.draw 18 rfl (by decide +kernel) ?_ | refine WC.draw 19 rfl (by decide +kernel) ?_ | refine WC.draw 20 rfl (by decide +kernel) ?_ | refine WC.draw 21 rfl (by decide +kernel) ?_ | refine WC.draw 22 rfl (by decide +kernel) ?_ | refine WC.draw 23 rfl (by decide +kernel) ?_ | refine WC.draw 24 rfl (by decide +kernel) ?_)); (repeat (refine WD.cons rfl (fun c h => by cases h) sq_C1_3 ?_)); refine WD.nil ?_)); (try (refine st ?_; (repeat intro zzc))))); (repeat revert zzc); exact zzn.out) : G := h ⟨next⟩
theorem letter_any (r : Nat) (hr : r ≤ 1114111) (w0 : World) (m : Mem) (H : SHeap) : Does Try.prog 86 #[.int .i32 (r : Int)] w0 m H (Gives (.bool (dcd (Great r ∨ Small r))) m H) := by
  refine Does.of_body (args := [.int .i32 (r : Int)]) Try.func86 rfl Try.ntmps86 rfl ?_
  by_cases h : Great r
  · (try (refine st_C1_3 ?_; intros))
    (refine q_fin0 ?_)
    exact Gives.mk (congrArg _ (tru_iff (.inl h)))
  · (try (refine st_C1_3 ?_; intros))
    (refine q_fin0 ?_)
    exact Gives.mk (congrArg _ (dcd_cong (by simp [h])))
theorem mark_any (r : Nat) (hr : r ≤ 1114111) (w0 : World) (m : Mem) (H : SHeap) : Does Try.prog 87 #[.int .i32 (r : Int)] w0 m H (Gives (.bool (dcd (768 ≤ r ∧ r ≤ 879))) m H) := by
  refine Does.of_body (args := [.int .i32 (r : Int)]) Try.func87 rfl Try.ntmps87 rfl ?_
  (repeat' (first | (refine st_C1_3 ?_; intros) | (first | refine c_ways (fun h1 => ?_) (fun h1 => ?_) | refine c_nways (fun h1 => ?_) (fun h1 => ?_) | refine w_gways (fun h1 => ?_) (fun h1 => ?_) | refine w_gnways (fun h1 => ?_) (fun h1 => ?_))))
  all_goals ((refine q_fin0 ?_); refine Gives.mk (congrArg _ ?_))
  all_goals first | (refine tru_iff ?_; omega) | (refine fls_iff ?_; omega) | (refine dcd_cong ?_; omega)
end Go.Proofs.Ytgckeelnhafgaaa

/-
  The walk of class.Kind, and of class.Of. No condition.
-/
namespace Go.Proofs.Ytgckeelnhafgaaa
open Go Go.Eng
set_option maxRecDepth 100000
set_option maxHeartbeats 4000000
set_option linter.all false
attribute [local irreducible] WL WC WQ QFun QLoop Does Q1 QRound QAssign Go.Addr.add
attribute [local irreducible] Great Small Wide kindN
theorem sq_C2_1 {G : Prop} (h : G := by (repeat (first | (refine sp ?_; (repeat intro zzc)) | (refine iF 86 rfl ?_; refine w_callG Try.func86 ?_ (hs := letter_any _ (by omega) _ _ _)) | (refine iF 87 rfl ?_; refine w_callG Try.func87 ?_ (hs := mark_any _ (by omega) _ _ _)))); exact WQ.q1 rfl) : G := h
theorem st_C2_1 {G G' : Prop} (next : G') (h : Bx G' → G := by intro zzn; (first | ((refine st ?_; (repeat intro zzc)); (try ((first | (refine iF 86 rfl ?_; refine w_callG Try.func86 ?_ (hs := letter_any _ (by omega) _ _ _)) | (refine iF 87 rfl ?_; refine w_callG Try.func87 ?_ (hs := mark_any _ (by omega) _ _ _)) | ((refine iDraw ?_; (first | refine WC.drawAll rfl (by decide +kernel) ?_ | refine WC.draw 1 rfl (by decide +kernel) ?_ | refine WC.draw 2 rfl (by decide +kernel) ?_ | refine WC.draw 3 rfl (by decide +kernel) ?_ | refine WC.draw 4 rfl (by decide +kernel) ?_ | refine WC.draw 5 rfl (by decide +kernel) ?_ | refine WC.draw 6 rfl (by decide +kernel) ?_ | refine WC.draw 7 rfl (by decide +kernel) ?_ | refine WC.draw 8 rfl (by decide +kernel) ?_ | refine WC.draw 9 rfl (by decide +kernel) ?_ | refine WC.draw 10 rfl (by decide +kernel) ?_ | refine WC.draw 11 rfl (by decide +kernel) ?_ | refine WC.draw 12 rfl (by decide +kernel) ?_ | refine WC.draw 13 rfl (by decide +kernel) ?_ | refine WC.draw 14 rfl (by decide +kernel) ?_ | refine WC.draw 15 rfl (by decide +kernel) ?_ | refine WC.draw 16 rfl (by decide +kernel) ?_ | refine WC.draw 17 rfl (by decide +kernel) ?_ | refine WC.draw 18 rfl (by decide +kernel) ?_ | refine WC.draw 19 rfl (by decide +kernel) ?_ | refine WC.draw 20 rfl (by decide +kernel) ?_ | refine WC.draw 21 rfl (by decide +kernel) ?_ | refine WC.draw 22 rfl (by decide +kernel) ?_ | refine WC.draw 23 rfl (by decide +kernel) ?_ | refine WC.draw 24 rfl (by decide +kernel) ?_)); (repeat (refine WD.cons rfl (fun c h => by cases h) sq_C2_1 ?_)); refine WD.nil ?_)); (try (refine st ?_; (repeat intro zzc)))))) | ((first | (refine iF 86 rfl ?_; refine w_callG Try.func86 ?_ (hs := letter_any _ (by omega) _ _ _)) | (refine iF 87 rfl ?_; refine w_callG Try.func87 ?_ (hs := mark_any _ (by omega) _ _ _)) | ((refine iDraw ?_; (first | refine WC.drawAll rfl (by decide +kernel) ?_ | refine WC.draw 1 rfl (by decide +kernel) ?_ | refine WC.draw 2 rfl (by decide +kernel) ?_ | refine WC.draw 3 rfl (by decide +kernel) ?_ | refine WC.draw 4 rfl (by decide +kernel) ?_ | refine WC.draw 5 rfl (by decide +kernel) ?_ | refine WC.draw 6 rfl (by decide +kernel) ?_ | refine WC.draw 7 rfl (by decide +kernel) ?_ | refine WC.draw 8 rfl (by decide +kernel) ?_ | refine WC.draw 9 rfl (by decide +kernel) ?_ | refine WC.draw 10 rfl (by decide +kernel) ?_ | refine WC.draw 11 rfl (by decide +kernel) ?_ | refine WC.draw 12 rfl (by decide +kernel) ?_ | refine WC.draw 13 rfl (by decide +kernel) ?_ | refine WC.draw 14 rfl (by decide +kernel) ?_ | refine WC.draw 15 rfl (by decide +kernel) ?_ | refine WC.draw 16 rfl (by decide +kernel) ?_ | refine WC.draw 17 rfl (by decide +kernel) ?_ | refine WC.draw 18 rfl (by decide +kernel) ?_ | refine WC.draw 19 rfl (by decide +kernel) ?_ | refine WC.draw 20 rfl (by decide +kernel) ?_ | refine WC.draw 21 rfl (by decide +kernel) ?_ | refine WC.draw 22 rfl (by decide +kernel) ?_ | refine WC.draw 23 rfl (by decide +kernel) ?_ | refine WC.draw 24 rfl (by decide +kernel) ?_)); (repeat (refine WD.cons rfl (fun c h => by cases h) sq_C2_1 ?_)); refine WD.nil ?_)); (try (refine st ?_; (repeat intro zzc))))); (repeat ((first | (refine iF 86 rfl ?_; refine w_callG Try.func86 ?_ (hs := letter_any _ (by omega) _ _ _)) | (refine iF 87 rfl ?_; refine w_callG Try.func87 ?_ (hs := mark_any _ (by omega) _ _ _)) | ((refine iDraw ?_; (first | refine WC.drawAll rfl (by decide +kernel) ?_ | refine WC.draw 1 rfl (by decide +kernel) ?_ | refine WC.draw 2 rfl (by decide +kernel) ?_ | refine WC.draw 3 rfl (by decide +kernel) ?_ | refine WC.draw 4 rfl (by decide +kernel) ?_ | refine WC.draw 5 rfl (by decide +kernel) ?_ | refine WC.draw 6 rfl (by decide +kernel) ?_ | refine WC.draw 7 rfl (by decide +kernel) ?_ | refine WC.draw 8 rfl (by decide +kernel) ?_ | refine WC.draw 9 rfl (by decide +kernel) ?_ | refine WC.draw 10 rfl (by decide +kernel) ?_ | refine WC.draw 11 rfl (by decide +kernel) ?_ | refine WC.draw 12 rfl (by decide +kernel) ?_ | refine WC.draw 13 rfl (by decide +kernel) ?_ | refine WC.draw 14 rfl (by decide +kernel) ?_ | refine WC.draw 15 rfl (by decide +kernel) ?_ | refine WC.draw 16 rfl (by decide +kernel) ?_ | refine WC.draw 17 rfl (by decide +kernel) ?_ | refine WC.draw 18 rfl (by decide +kernel) ?_ | refine WC.draw 19 rfl (by decide +kernel) ?_ | refine WC.draw 20 rfl (by decide +kernel) ?_ | refine WC.draw 21 rfl (by decide +kernel) ?_ | refine WC.draw 22 rfl (by decide +kernel) ?_ | refine WC.draw 23 rfl (by decide +kernel) ?_ | refine WC.draw 24 rfl (by decide +kernel) ?_)); (repeat (refine WD.cons rfl (fun c h => by cases h) sq_C2_1 ?_)); refine WD.nil ?_)); (try (refine st ?_; (repeat intro zzc))))); (repeat revert zzc); exact zzn.out) : G := h ⟨next⟩
theorem kind_any (r : Nat) (hr : r ≤ 1114111) (ho : r < 55296 ∨ 57343 < r) (w0 : World) (m : Mem) (H : SHeap) : Does Try.prog 72 #[.int .i32 (r : Int)] w0 m H (Gives (.int .i64 (kindN r : Int)) m H) := by
  refine Does.of_body (args := [.int .i32 (r : Int)]) Try.func72 rfl Try.ntmps72 rfl ?_
  (repeat' (first | (refine st_C2_1 ?_; intros) | (first | refine c_ways (fun h1 => ?_) (fun h1 => ?_) | refine c_nways (fun h1 => ?_) (fun h1 => ?_) | refine w_gways (fun h1 => ?_) (fun h1 => ?_) | refine w_gnways (fun h1 => ?_) (fun h1 => ?_))))
  all_goals ((refine q_fin0 ?_); refine Gives.mk (congrArg _ ?_))
  all_goals first | (have hk := kind_letter (r := r) (by assumption); omega) | (have hk := kind_spec (r := r) (by assumption); unfold Blank Dash Quote Point Ctl at hk; omega)
theorem sq_C2_2 {G : Prop} (h : G := by (repeat (first | (refine sp ?_; (repeat intro zzc)) | (refine iF 86 rfl ?_; refine w_callG Try.func86 ?_ (hs := letter_any _ (by omega) _ _ _)) | (refine iF 87 rfl ?_; refine w_callG Try.func87 ?_ (hs := mark_any _ (by omega) _ _ _)) | (refine iF 72 rfl ?_; refine w_callG Try.func72 ?_ (hs := kind_any _ (by omega) (by omega) _ _ _)))); exact WQ.q1 rfl) : G := h
theorem st_C2_2 {G G' : Prop} (next : G') (h : Bx G' → G := by intro zzn; (first | ((refine st ?_; (repeat intro zzc)); (try ((first | (refine iF 86 rfl ?_; refine w_callG Try.func86 ?_ (hs := letter_any _ (by omega) _ _ _)) | (refine iF 87 rfl ?_; refine w_callG Try.func87 ?_ (hs := mark_any _ (by omega) _ _ _)) | (refine iF 72 rfl ?_; refine w_callG Try.func72 ?_ (hs := kind_any _ (by omega) (by omega) _ _ _)) | ((refine iDraw ?_; (first | refine WC.drawAll rfl (by decide +kernel) ?_ | refine WC.draw 1 rfl (by decide +kernel) ?_ | refine WC.draw 2 rfl (by decide +kernel) ?_ | refine WC.draw 3 rfl (by decide +kernel) ?_ | refine WC.draw 4 rfl (by decide +kernel) ?_ | refine WC.draw 5 rfl (by decide +kernel) ?_ | refine WC.draw 6 rfl (by decide +kernel) ?_ | refine WC.draw 7 rfl (by decide +kernel) ?_ | refine WC.draw 8 rfl (by decide +kernel) ?_ | refine WC.draw 9 rfl (by decide +kernel) ?_ | refine WC.draw 10 rfl (by decide +kernel) ?_ | refine WC.draw 11 rfl (by decide +kernel) ?_ | refine WC.draw 12 rfl (by decide +kernel) ?_ | refine WC.draw 13 rfl (by decide +kernel) ?_ | refine WC.draw 14 rfl (by decide +kernel) ?_ | refine WC.draw 15 rfl (by decide +kernel) ?_ | refine WC.draw 16 rfl (by decide +kernel) ?_ | refine WC.draw 17 rfl (by decide +kernel) ?_ | refine WC.draw 18 rfl (by decide +kernel) ?_ | refine WC.draw 19 rfl (by decide +kernel) ?_ | refine WC.draw 20 rfl (by decide +kernel) ?_ | refine WC.draw 21 rfl (by decide +kernel) ?_ | refine WC.draw 22 rfl (by decide +kernel) ?_ | refine WC.draw 23 rfl (by decide +kernel) ?_ | refine WC.draw 24 rfl (by decide +kernel) ?_)); (repeat (refine WD.cons rfl (fun c h => by cases h) sq_C2_2 ?_)); refine WD.nil ?_)); (try (refine st ?_; (repeat intro zzc)))))) | ((first | (refine iF 86 rfl ?_; refine w_callG Try.func86 ?_ (hs := letter_any _ (by omega) _ _ _)) | (refine iF 87 rfl ?_; refine w_callG Try.func87 ?_ (hs := mark_any _ (by omega) _ _ _)) | (refine iF 72 rfl ?_; refine w_callG Try.func72 ?_ (hs := kind_any _ (by omega) (by omega) _ _ _)) | ((refine iDraw ?_; (first | refine WC.drawAll rfl (by decide +kernel) ?_ | refine WC.draw 1 rfl (by decide +kernel) ?_ | refine WC.draw 2 rfl (by decide +kernel) ?_ | refine WC.draw 3 rfl (by decide +kernel) ?_ | refine WC.draw 4 rfl (by decide +kernel) ?_ | refine WC.draw 5 rfl (by decide +kernel) ?_ | refine WC.draw 6 rfl (by decide +kernel) ?_ | refine WC.draw 7 rfl (by decide +kernel) ?_ | refine WC.draw 8 rfl (by decide +kernel) ?_ | refine WC.draw 9 rfl (by decide +kernel) ?_ | refine WC.draw 10 rfl (by decide +kernel) ?_ | refine WC.draw 11 rfl (by decide +kernel) ?_ | refine WC.draw 12 rfl (by decide +kernel) ?_ | refine WC.draw 13 rfl (by decide +kernel) ?_ | refine WC.draw 14 rfl (by decide +kernel) ?_ | refine WC.draw 15 rfl (by decide +kernel) ?_ | refine WC.draw 16 rfl (by decide +kernel) ?_ | refine WC.draw 17 rfl (by decide +kernel) ?_ | refine WC.draw 18 rfl (by decide +kernel) ?_ | refine WC.draw 19 rfl (by decide +kernel) ?_ | refine WC.draw 20 rfl (by decide +kernel) ?_ | refine WC.draw 21 rfl (by decide +kernel) ?_ | refine WC.draw 22 rfl (by decide +kernel) ?_ | refine WC.draw 23 rfl (by decide +kernel) ?_ | refine WC.draw 24 rfl (by decide +kernel) ?_)); (repeat (refine WD.cons rfl (fun c h => by cases h) sq_C2_2 ?_)); refine WD.nil ?_)); (try (refine st ?_; (repeat intro zzc))))); (repeat ((first | (refine iF 86 rfl ?_; refine w_callG Try.func86 ?_ (hs := letter_any _ (by omega) _ _ _)) | (refine iF 87 rfl ?_; refine w_callG Try.func87 ?_ (hs := mark_any _ (by omega) _ _ _)) | (refine iF 72 rfl ?_; refine w_callG Try.func72 ?_ (hs := kind_any _ (by omega) (by omega) _ _ _)) | ((refine iDraw ?_; (first | refine WC.drawAll rfl (by decide +kernel) ?_ | refine WC.draw 1 rfl (by decide +kernel) ?_ | refine WC.draw 2 rfl (by decide +kernel) ?_ | refine WC.draw 3 rfl (by decide +kernel) ?_ | refine WC.draw 4 rfl (by decide +kernel) ?_ | refine WC.draw 5 rfl (by decide +kernel) ?_ | refine WC.draw 6 rfl (by decide +kernel) ?_ | refine WC.draw 7 rfl (by decide +kernel) ?_ | refine WC.draw 8 rfl (by decide +kernel) ?_ | refine WC.draw 9 rfl (by decide +kernel) ?_ | refine WC.draw 10 rfl (by decide +kernel) ?_ | refine WC.draw 11 rfl (by decide +kernel) ?_ | refine WC.draw 12 rfl (by decide +kernel) ?_ | refine WC.draw 13 rfl (by decide +kernel) ?_ | refine WC.draw 14 rfl (by decide +kernel) ?_ | refine WC.draw 15 rfl (by decide +kernel) ?_ | refine WC.draw 16 rfl (by decide +kernel) ?_ | refine WC.draw 17 rfl (by decide +kernel) ?_ | refine WC.draw 18 rfl (by decide +kernel) ?_ | refine WC.draw 19 rfl (by decide +kernel) ?_ | refine WC.draw 20 rfl (by decide +kernel) ?_ | refine WC.draw 21 rfl (by decide +kernel) ?_ | refine WC.draw 22 rfl (by decide +kernel) ?_ | refine WC.draw 23 rfl (by decide +kernel) ?_ | refine WC.draw 24 rfl (by decide +kernel) ?_)); (repeat (refine WD.cons rfl (fun c h => by cases h) sq_C2_2 ?_)); refine WD.nil ?_)); (try (refine st ?_; (repeat intro zzc))))); (repeat revert zzc); exact zzn.out) : G := h ⟨next⟩
theorem of_any (p : Pc) (hr : okr p.r) (w0 : World) (m : Mem) (H : SHeap) : Does Try.prog 58 #[p.v] w0 m H (Gives (.int .i64 (kindP p : Int)) m H) := by
  have hr1 := okr_le hr
  have hr2 : p.r < 55296 ∨ 57343 < p.r := by unfold okr at hr; omega
  unfold Pc.v Pc.cs
  refine Does.of_body (args := [.agg #[.int .i64 (p.at_ : Int), .int .i64 (p.w : Int), .int .i32 (p.r : Int), .bool p.b]]) Try.func58 rfl Try.ntmps58 rfl ?_
  cases hb : p.b with
  | true =>
    (try (refine st_C2_2 ?_; intros))
    (refine q_fin0 ?_)
    exact Gives.mk (by rw [kindP_b hb]; rfl)
  | false =>
    (try (refine st_C2_2 ?_; intros))
    (refine q_fin0 ?_)
    exact Gives.mk (by rw [kindP_r hb])
end Go.Proofs.Ytgckeelnhafgaaa

/-
  The walks of package runes and of its reference, first part: a rune's width, the piece that is read at a place. No condition.
-/
namespace Go.Proofs.Ytgckeelnhafgaaa
open Go Go.Eng
set_option maxRecDepth 100000
set_option maxHeartbeats 4000000
set_option linter.all false
attribute [local irreducible] WL WC WQ QFun QLoop Does Q1 QRound QAssign Go.Addr.add
/-- runes.Width, of whatever number -/
def widthS (r : Int) : Int := if r ≠ 65533 ∧ fmb (rn r) = [239, 191, 189] then 0 else (wd (rn r) : Int)
theorem width_any (r : Int) (w0 : World) (m : Mem) (H : SHeap) : Does Try.prog 85 #[.int .i32 r] w0 m H (Gives (.int .i64 (widthS r)) m H) := by
  refine Does.of_body (args := [.int .i32 r]) Try.func85 rfl Try.ntmps85 rfl ?_
  (try (refine st ?_; intros))
  (first | refine c_ways (fun h1 => ?_) (fun h1 => ?_) | refine c_nways (fun h1 => ?_) (fun h1 => ?_) | refine w_gways (fun h1 => ?_) (fun h1 => ?_) | refine w_gnways (fun h1 => ?_) (fun h1 => ?_))
  · (try (refine st ?_; intros))
    (first | refine c_ways (fun h2 => ?_) (fun h2 => ?_) | refine c_nways (fun h2 => ?_) (fun h2 => ?_) | refine w_gways (fun h2 => ?_) (fun h2 => ?_) | refine w_gnways (fun h2 => ?_) (fun h2 => ?_))
    · (try (refine st ?_; intros))
      rw [encode_eq] at h2
      exact WQ.fin _ (res_tmp rfl rfl) (.mk (by rw [widthS, if_pos ⟨h1, h2⟩]))
    · (try (refine st ?_; intros))
      rw [encode_eq] at h2 ⊢
      exact WQ.fin _ (res_tmp rfl rfl) (.mk (by rw [widthS, if_neg (fun h => h2 h.2), fmb_length]))
  · (try (refine st ?_; intros))
    rw [encode_eq]
    exact WQ.fin _ (res_tmp rfl rfl) (.mk (by rw [widthS, if_neg (fun h => h.1 h1), fmb_length]))

theorem widthS_ok {c : Nat} (h : okr c) : widthS (c : Int) = (wd c : Int) := by
  unfold widthS
  rw [rn_nat h, if_neg]
  rintro ⟨h1, h2⟩
  apply h1
  have h3 : wd c = 3 := by rw [← fmb_length c, h2]; rfl
  have hc : ¬ c < 128 ∧ ¬ c < 2048 ∧ c < 65536 := by
    unfold wd at h3
    split at h3
    · cases h3
    · split at h3
      · cases h3
      · split at h3
        · omega
        · cases h3
  have h4 := nb_fmb c 0 (by omega) (by omega)
  have h5 := nb_fmb c 1 (by omega) (by omega)
  have h6 := nb_fmb c 2 (by omega) (by omega)
  rw [h2] at h4 h5 h6
  unfold fm at h4 h5 h6
  rw [if_neg hc.1, if_neg hc.2.1, if_pos hc.2.2] at h4 h5 h6
  simp [nb, gb] at h4 h5 h6
  omega
theorem fmb_lost : fmb 65533 = [239, 191, 189] := by decide
/-- what the text bears there is the form of U+FFFD just if it is decoded as one of three bytes -/
theorem lost_iff (l : List UInt8) (hl : 0 < l.length) (h : (dl l).1 = 65533) : (¬ l.length < 3 ∧ l.take 3 = [239, 191, 189]) ↔ ¬ dl l = (65533, 1) := by
  have hw : wd 65533 = 3 := by decide
  constructor
  · rintro ⟨h1, h2⟩ h3
    have := dl_of_begins (l := l) (c := 65533) (by right; decide) ((begins_iff l 65533 (by decide)).2 (by rw [hw, h2, fmb_lost]))
    rw [h3, hw] at this
    cases this
  · intro h3
    rcases dl_cases l hl with ⟨_, _, hb⟩ | ⟨he, _⟩
    · rw [h] at hb
      have := (begins_iff l 65533 (by decide)).1 hb
      rw [hw, fmb_lost] at this
      have hb1 := hb.1
      rw [hw] at hb1
      exact ⟨by omega, this⟩
    · exact absurd he h3
theorem readP_some {l : List UInt8} {k : Nat} (hk : k < l.length) (h : ¬ dl (l.drop k) = (65533, 1)) : okr (dl (l.drop k)).1 ∧ widthS ((dl (l.drop k)).1 : Int) = ((dl (l.drop k)).2 : Int) := by
  rcases dl_cases (l.drop k) (by simp; omega) with ⟨h1, h2, _⟩ | ⟨he, _⟩
  · exact ⟨h1, by rw [widthS_ok h1, h2]⟩
  · exact absurd he h

theorem take_drop_swap (l : List UInt8) (k j : Nat) : (l.take (k + j)).drop k = (l.drop k).take j := by
  rw [List.drop_take]; congr 1; omega
theorem read_any (l : List UInt8) (k : Nat) (hl : l.length ≤ 9223372036854775804) (hk : k < l.length) (w0 : World) (m : Mem) (H : SHeap) :
    Does Try.prog 71 #[str l, .int .i64 (k : Int)] w0 m H (Gives (readP l k).v m H) := by
  have hlen : (l.drop k).length = l.length - k := List.length_drop
  have hli := lost_iff (l.drop k) (by omega)
  have hso := fun h => (readP_some hk h).2
  rw [hlen] at hli
  refine Does.of_body (args := [str l, .int .i64 (k : Int)]) Try.func71 rfl Try.ntmps71 rfl ?_
  (try (refine st ?_; intros))
  apply WC.loop1
  (try (refine st ?_; intros))
  refine WL.rename 15 (u := .int .i32 ((dl (l.drop k)).1 : Int)) rfl rfl ?_
  refine WL.rename 6 (u := .int .i32 ((dl (l.drop k)).1 : Int)) rfl rfl ?_
  refine w_callF Try.func85 ?_ (hs := width_any _ _ _ _)
  rintro _ _ _ ⟨rfl, rfl, rfl⟩
  by_cases hA : dl (l.drop k) = (65533, 1)
  · have h1 : (dl (l.drop k)).1 = 65533 := by rw [hA]
    (try (refine st ?_; intros))
    (first | refine c_ways (fun h2 => ?_) (fun h2 => ?_) | refine c_nways (fun h2 => ?_) (fun h2 => ?_) | refine w_gways (fun h2 => ?_) (fun h2 => ?_) | refine w_gnways (fun h2 => ?_) (fun h2 => ?_))
    · (try (refine st ?_; intros))
      (refine q_fin0 ?_)
      refine Gives.mk ?_
      unfold readP; rw [if_pos hA]; rfl
    · (try (refine st ?_; intros))
      (first | refine c_ways (fun h3 => ?_) (fun h3 => ?_) | refine c_nways (fun h3 => ?_) (fun h3 => ?_) | refine w_gways (fun h3 => ?_) (fun h3 => ?_) | refine w_gnways (fun h3 => ?_) (fun h3 => ?_))
      · (try (refine st ?_; intros))
        (refine q_fin0 ?_)
        refine Gives.mk ?_
        unfold readP; rw [if_pos hA]; rfl
      · exfalso
        rw [take_drop_swap] at h3
        exact (hli h1).1 ⟨by omega, h3⟩ hA
  · have hw := hso hA
    (try (refine st ?_; intros))
    (first | refine c_ways (fun h2 => ?_) (fun h2 => ?_) | refine c_nways (fun h2 => ?_) (fun h2 => ?_) | refine w_gways (fun h2 => ?_) (fun h2 => ?_) | refine w_gnways (fun h2 => ?_) (fun h2 => ?_))
    · have h1 : (dl (l.drop k)).1 = 65533 := by omega
      obtain ⟨h4, h5⟩ := (hli h1).2 hA
      (try (refine st ?_; intros))
      (first | refine c_ways (fun h3 => ?_) (fun h3 => ?_) | refine c_nways (fun h3 => ?_) (fun h3 => ?_) | refine w_gways (fun h3 => ?_) (fun h3 => ?_) | refine w_gnways (fun h3 => ?_) (fun h3 => ?_))
      · exfalso
        rw [take_drop_swap] at h3
        exact h3 h5
      · (try (refine st ?_; intros))
        (refine q_fin0 ?_)
        refine Gives.mk ?_
        unfold readP; rw [if_neg hA, hw]; rfl
    · (try (refine st ?_; intros))
      (refine q_fin0 ?_)
      refine Gives.mk ?_
      unfold readP; rw [if_neg hA, hw]; rfl
end Go.Proofs.Ytgckeelnhafgaaa

/-
  The walks of package runes: the iterator over a text's pieces. No condition.
-/
namespace Go.Proofs.Ytgckeelnhafgaaa
open Go Go.Eng
set_option maxRecDepth 100000
set_option maxHeartbeats 4000000
set_option linter.all false
attribute [local irreducible] WL WC WQ QFun QLoop Does Q1 QRound QAssign Go.Addr.add
/-- what a text's iterator leans on: its text in a cell that stays -/
def TextAt (b : Nat) (l : List UInt8) (m : Mem) : Prop := m b = some (.cells [str l].toArray 9 (0, 0))
/-- an iterator's value: made anew, over a text of its own -/
def IterOf (f : Nat) (l : List UInt8) (m : Mem) (H : SHeap) : Value → Mem → SHeap → Prop := fun v m' H' =>
  ∃ b, v = .func (.func f) #[] #[.pointer (some ⟨b, 0, none⟩)] ∧ m' = m ∧ H' = .blk b (.cells [str l].toArray 9 (0, 0)) :: H
theorem pieces_any (l : List UInt8) (w0 : World) (m : Mem) (H : SHeap) : Does Try.prog 57 #[str l] w0 m H (IterOf 70 l m H) := by
  refine Does.of_body (args := [str l]) Try.func57 rfl Try.ntmps57 rfl ?_
  (try (refine st ?_; intros))
  apply WQ.fin
  · (first | (apply res_tmp; (· exact rfl); (· exact rfl)) | (apply res_cell; (· exact rfl); (· exact rfl); (· (first | (apply Loads.one; (· exact rfl); (· first | (apply Cell.blk; (· (repeat (first | exact List.Mem.head _ | apply List.Mem.tail))); (· exact rfl)) | (apply Cell.mem; (· assumption); (· exact rfl)))) | (apply Loads.whole; (· exact rfl); (· exact rfl); (· (repeat (first | exact List.Mem.head _ | apply List.Mem.tail))); (· exact rfl)) | (apply Loads.blk; (· exact rfl); (· exact rfl); (· (repeat (first | exact List.Mem.head _ | apply List.Mem.tail))); (· (repeat (first | exact Seg.nil | (apply Seg.cons; (· exact rfl)))))) | (apply Loads.row; (· (repeat (first | exact List.Mem.head _ | apply List.Mem.tail))); (first | (rotate_left; (· exact rfl); rotate_right; (· assumption)) | ((· assumption); (· exact rfl))); (· exact rfl); (· exact rfl); (· exact rfl)) | (apply Loads.row1; (· (repeat (first | exact List.Mem.head _ | apply List.Mem.tail))); (first | (rotate_left; (· exact rfl); rotate_right; (· assumption)) | ((· assumption); (· exact rfl))); (· exact rfl)) | (apply Loads.rowF; (· (repeat (first | exact List.Mem.head _ | apply List.Mem.tail))); (first | (rotate_left; (· exact rfl); rotate_right; (· assumption)) | ((· assumption); (· exact rfl))); (· exact rfl); (· exact rfl)) | (apply Loads.prow; (· assumption); (first | (rotate_left; (· exact rfl); rotate_right; (· assumption)) | ((· assumption); (· exact rfl))); (· exact rfl); (· exact rfl); (· exact rfl)) | (apply Loads.prow1; (· assumption); (first | (rotate_left; (· exact rfl); rotate_right; (· assumption)) | ((· assumption); (· exact rfl))); (· exact rfl)) | (apply Loads.prowF; (· assumption); (first | (rotate_left; (· exact rfl); rotate_right; (· assumption)) | ((· assumption); (· exact rfl))); (· exact rfl); (· exact rfl)) | (apply Loads.rrow; (· assumption); (first | (rotate_left; (· exact rfl); rotate_right; (· assumption)) | ((· assumption); (· exact rfl))); (· exact rfl); (· exact rfl); (· exact rfl)) | (apply Loads.rrow1; (· assumption); (first | (rotate_left; (· exact rfl); rotate_right; (· assumption)) | ((· assumption); (· exact rfl))); (· exact rfl)) | (apply Loads.rrowF; (· assumption); (first | (rotate_left; (· exact rfl); rotate_right; (· assumption)) | ((· assumption); (· exact rfl))); (· exact rfl); (· exact rfl)) | (apply Loads.rowS; (· (repeat (first | exact List.Mem.head _ | apply List.Mem.tail))); (first | (rotate_left; (· exact rfl); rotate_right; (· assumption)) | ((· assumption); (· exact rfl))); (· exact rfl); (· exact rfl); (· (repeat (first | exact Seg.nil | (apply Seg.cons; (· exact rfl))))))))) | (apply res_none; exact rfl) | (apply res_many; (· exact rfl); (· repeat (first | exact ResAll.nil | (apply ResAll.tmp; (· exact rfl)) | (apply ResAll.cell; (· exact rfl); (· (first | (apply Loads.one; (· exact rfl); (· first | (apply Cell.blk; (· (repeat (first | exact List.Mem.head _ | apply List.Mem.tail))); (· exact rfl)) | (apply Cell.mem; (· assumption); (· exact rfl)))) | (apply Loads.whole; (· exact rfl); (· exact rfl); (· (repeat (first | exact List.Mem.head _ | apply List.Mem.tail))); (· exact rfl)) | (apply Loads.blk; (· exact rfl); (· exact rfl); (· (repeat (first | exact List.Mem.head _ | apply List.Mem.tail))); (· (repeat (first | exact Seg.nil | (apply Seg.cons; (· exact rfl)))))) | (apply Loads.row; (· (repeat (first | exact List.Mem.head _ | apply List.Mem.tail))); (first | (rotate_left; (· exact rfl); rotate_right; (· assumption)) | ((· assumption); (· exact rfl))); (· exact rfl); (· exact rfl); (· exact rfl)) | (apply Loads.row1; (· (repeat (first | exact List.Mem.head _ | apply List.Mem.tail))); (first | (rotate_left; (· exact rfl); rotate_right; (· assumption)) | ((· assumption); (· exact rfl))); (· exact rfl)) | (apply Loads.rowF; (· (repeat (first | exact List.Mem.head _ | apply List.Mem.tail))); (first | (rotate_left; (· exact rfl); rotate_right; (· assumption)) | ((· assumption); (· exact rfl))); (· exact rfl); (· exact rfl)) | (apply Loads.prow; (· assumption); (first | (rotate_left; (· exact rfl); rotate_right; (· assumption)) | ((· assumption); (· exact rfl))); (· exact rfl); (· exact rfl); (· exact rfl)) | (apply Loads.prow1; (· assumption); (first | (rotate_left; (· exact rfl); rotate_right; (· assumption)) | ((· assumption); (· exact rfl))); (· exact rfl)) | (apply Loads.prowF; (· assumption); (first | (rotate_left; (· exact rfl); rotate_right; (· assumption)) | ((· assumption); (· exact rfl))); (· exact rfl); (· exact rfl)) | (apply Loads.rrow; (· assumption); (first | (rotate_left; (· exact rfl); rotate_right; (· assumption)) | ((· assumption); (· exact rfl))); (· exact rfl); (· exact rfl); (· exact rfl)) | (apply Loads.rrow1; (· assumption); (first | (rotate_left; (· exact rfl); rotate_right; (· assumption)) | ((· assumption); (· exact rfl))); (· exact rfl)) | (apply Loads.rrowF; (· assumption); (first | (rotate_left; (· exact rfl); rotate_right; (· assumption)) | ((· assumption); (· exact rfl))); (· exact rfl); (· exact rfl)) | (apply Loads.rowS; (· (repeat (first | exact List.Mem.head _ | apply List.Mem.tail))); (first | (rotate_left; (· exact rfl); rotate_right; (· assumption)) | ((· assumption); (· exact rfl))); (· exact rfl); (· exact rfl); (· (repeat (first | exact Seg.nil | (apply Seg.cons; (· exact rfl))))))))))); (· exact rfl)))
  · exact ⟨_, rfl, rfl, rfl⟩
theorem pieces_seq (l : List UInt8) (hl : l.length ≤ 9223372036854775804) (b : Nat) : SeqC Try.prog 70 [.pointer (some ⟨b, 0, none⟩)] (fun p : Pc => [p.v]) (pieces l) (TextAt b l) := by
  intro w0 lp J Jx m H hcap h0 hY
  have hcap' : m b = some (.cells [str l].toArray 9 (0, 0)) := hcap
  refine Does.of_body Try.func70 rfl Try.ntmps70 rfl ?_
  (try (refine st ?_; intros))
  refine WC.loopW [(5, _), (0, .func (.yield lp) #[] #[]), (1, .pointer (some ⟨b, 0, none⟩))] ?_ (fun j r ds m' H' => ∃ k pre H1 it, j = l.length - k ∧ r = [(5, .pointer (some ⟨it, 0, none⟩)), (0, .func (.yield lp) #[] #[]), (1, .pointer (some ⟨b, 0, none⟩))] ∧ ds = [] ∧ H' = .blk it (.stringIter ⟨l.toArray⟩ k) :: H1 ∧ m.le m' ∧ pieces l = pre ++ from_ l k ∧ J pre m' H1) l.length ⟨0, [], H, _, rfl, rfl, rfl, rfl, Mem.le.refl _, rfl, h0⟩ ?_
  · (repeat (first | exact Env.Sub.nil | refine Env.Sub.cons rfl ?_))
  rintro j r ds m1 H1 ⟨k, pre, H1, it, rfl, rfl, rfl, rfl, hle, hp, hJ⟩
  have hcap1 := hle _ _ hcap'
  by_cases hk : k < l.length
  · have hw := readP_w hk
    rw [from_cons hk] at hp
    (try (refine st ?_; intros))
    refine w_callF Try.func71 ?_ (hs := read_any l k hl hk _ _ _)
    rintro _ _ _ ⟨rfl, rfl, rfl⟩
    (try (refine st ?_; intros))
    rw [readP_w_eq] at hp hw
    apply WL.yield
    · exact rfl
    · exact rfl
    · exact rfl
    · exact hY pre (readP l k) _ hp _ H1 [_] hJ hle
    · rintro m2 _ ⟨H2, rfl, hJ2, hle2⟩
      (try (refine st ?_; intros))
      refine WQ.next (l.length - (k + (dl (l.drop k)).2)) ⟨_, pre ++ [readP l k], H2, it, rfl, rfl, rfl, rfl, hle.trans hle2, by rw [hp]; simp, hJ2⟩ (by omega) zsb (fun w h => h)
    · rintro m2 _ ⟨H2, rfl, hJ2, hle2⟩
      (try (refine st ?_; intros))
      (refine q_fin0 ?_)
      exact ⟨hle.trans hle2, .inr ⟨pre ++ [readP l k], ⟨from_ l (k + (dl (l.drop k)).2), by rw [hp]; simp⟩, hJ2⟩⟩
  · rw [from_nil hk, List.append_nil] at hp
    (try (refine st ?_; intros))
    apply WQ.finNorm
    · (first | (apply res_tmp; (· exact rfl); (· exact rfl)) | (apply res_cell; (· exact rfl); (· exact rfl); (· (first | (apply Loads.one; (· exact rfl); (· first | (apply Cell.blk; (· (repeat (first | exact List.Mem.head _ | apply List.Mem.tail))); (· exact rfl)) | (apply Cell.mem; (· assumption); (· exact rfl)))) | (apply Loads.whole; (· exact rfl); (· exact rfl); (· (repeat (first | exact List.Mem.head _ | apply List.Mem.tail))); (· exact rfl)) | (apply Loads.blk; (· exact rfl); (· exact rfl); (· (repeat (first | exact List.Mem.head _ | apply List.Mem.tail))); (· (repeat (first | exact Seg.nil | (apply Seg.cons; (· exact rfl)))))) | (apply Loads.row; (· (repeat (first | exact List.Mem.head _ | apply List.Mem.tail))); (first | (rotate_left; (· exact rfl); rotate_right; (· assumption)) | ((· assumption); (· exact rfl))); (· exact rfl); (· exact rfl); (· exact rfl)) | (apply Loads.row1; (· (repeat (first | exact List.Mem.head _ | apply List.Mem.tail))); (first | (rotate_left; (· exact rfl); rotate_right; (· assumption)) | ((· assumption); (· exact rfl))); (· exact rfl)) | (apply Loads.rowF; (· (repeat (first | exact List.Mem.head _ | apply List.Mem.tail))); (first | (rotate_left; (· exact rfl); rotate_right; (· assumption)) | ((· assumption); (· exact rfl))); (· exact rfl); (· exact rfl)) | (apply Loads.prow; (· assumption); (first | (rotate_left; (· exact rfl); rotate_right; (· assumption)) | ((· assumption); (· exact rfl))); (· exact rfl); (· exact rfl); (· exact rfl)) | (apply Loads.prow1; (· assumption); (first | (rotate_left; (· exact rfl); rotate_right; (· assumption)) | ((· assumption); (· exact rfl))); (· exact rfl)) | (apply Loads.prowF; (· assumption); (first | (rotate_left; (· exact rfl); rotate_right; (· assumption)) | ((· assumption); (· exact rfl))); (· exact rfl); (· exact rfl)) | (apply Loads.rrow; (· assumption); (first | (rotate_left; (· exact rfl); rotate_right; (· assumption)) | ((· assumption); (· exact rfl))); (· exact rfl); (· exact rfl); (· exact rfl)) | (apply Loads.rrow1; (· assumption); (first | (rotate_left; (· exact rfl); rotate_right; (· assumption)) | ((· assumption); (· exact rfl))); (· exact rfl)) | (apply Loads.rrowF; (· assumption); (first | (rotate_left; (· exact rfl); rotate_right; (· assumption)) | ((· assumption); (· exact rfl))); (· exact rfl); (· exact rfl)) | (apply Loads.rowS; (· (repeat (first | exact List.Mem.head _ | apply List.Mem.tail))); (first | (rotate_left; (· exact rfl); rotate_right; (· assumption)) | ((· assumption); (· exact rfl))); (· exact rfl); (· exact rfl); (· (repeat (first | exact Seg.nil | (apply Seg.cons; (· exact rfl))))))))) | (apply res_none; exact rfl) | (apply res_many; (· exact rfl); (· repeat (first | exact ResAll.nil | (apply ResAll.tmp; (· exact rfl)) | (apply ResAll.cell; (· exact rfl); (· (first | (apply Loads.one; (· exact rfl); (· first | (apply Cell.blk; (· (repeat (first | exact List.Mem.head _ | apply List.Mem.tail))); (· exact rfl)) | (apply Cell.mem; (· assumption); (· exact rfl)))) | (apply Loads.whole; (· exact rfl); (· exact rfl); (· (repeat (first | exact List.Mem.head _ | apply List.Mem.tail))); (· exact rfl)) | (apply Loads.blk; (· exact rfl); (· exact rfl); (· (repeat (first | exact List.Mem.head _ | apply List.Mem.tail))); (· (repeat (first | exact Seg.nil | (apply Seg.cons; (· exact rfl)))))) | (apply Loads.row; (· (repeat (first | exact List.Mem.head _ | apply List.Mem.tail))); (first | (rotate_left; (· exact rfl); rotate_right; (· assumption)) | ((· assumption); (· exact rfl))); (· exact rfl); (· exact rfl); (· exact rfl)) | (apply Loads.row1; (· (repeat (first | exact List.Mem.head _ | apply List.Mem.tail))); (first | (rotate_left; (· exact rfl); rotate_right; (· assumption)) | ((· assumption); (· exact rfl))); (· exact rfl)) | (apply Loads.rowF; (· (repeat (first | exact List.Mem.head _ | apply List.Mem.tail))); (first | (rotate_left; (· exact rfl); rotate_right; (· assumption)) | ((· assumption); (· exact rfl))); (· exact rfl); (· exact rfl)) | (apply Loads.prow; (· assumption); (first | (rotate_left; (· exact rfl); rotate_right; (· assumption)) | ((· assumption); (· exact rfl))); (· exact rfl); (· exact rfl); (· exact rfl)) | (apply Loads.prow1; (· assumption); (first | (rotate_left; (· exact rfl); rotate_right; (· assumption)) | ((· assumption); (· exact rfl))); (· exact rfl)) | (apply Loads.prowF; (· assumption); (first | (rotate_left; (· exact rfl); rotate_right; (· assumption)) | ((· assumption); (· exact rfl))); (· exact rfl); (· exact rfl)) | (apply Loads.rrow; (· assumption); (first | (rotate_left; (· exact rfl); rotate_right; (· assumption)) | ((· assumption); (· exact rfl))); (· exact rfl); (· exact rfl); (· exact rfl)) | (apply Loads.rrow1; (· assumption); (first | (rotate_left; (· exact rfl); rotate_right; (· assumption)) | ((· assumption); (· exact rfl))); (· exact rfl)) | (apply Loads.rrowF; (· assumption); (first | (rotate_left; (· exact rfl); rotate_right; (· assumption)) | ((· assumption); (· exact rfl))); (· exact rfl); (· exact rfl)) | (apply Loads.rowS; (· (repeat (first | exact List.Mem.head _ | apply List.Mem.tail))); (first | (rotate_left; (· exact rfl); rotate_right; (· assumption)) | ((· assumption); (· exact rfl))); (· exact rfl); (· exact rfl); (· (repeat (first | exact Seg.nil | (apply Seg.cons; (· exact rfl))))))))))); (· exact rfl)))
    · exact ⟨hle, .inl (by rw [hp]; exact hJ)⟩
end Go.Proofs.Ytgckeelnhafgaaa

/-
  Plain facts on units (a piece with the marks behind it) and on tokens. No condition.
-/
namespace Go.Eng
open Go
/-- a unit: its kind, its first rune, its span, whether it is one piece -/
structure Un where
  k : Nat
  r : Nat
  a : Nat
  z : Nat
  o : Bool
  deriving DecidableEq
def Un.cs (u : Un) : List Value := [.int .i64 (u.k : Int), .int .i32 (u.r : Int), .int .i64 (u.a : Int), .int .i64 (u.z : Int), .bool u.o]
def Un.cs2 (u : Un) : List Value := [.int .i64 (u.k : Int), .int .i64 (u.a : Int), .int .i64 (u.z : Int), .int .i32 (u.r : Int), .bool u.o]
def Un.v (u : Un) : Value := .agg u.cs.toArray
/-- takes a unit of this kind no marks? -/
def bareK (k : Nat) : Prop := k = 11 ∨ k = 4 ∨ k = 9
instance (k : Nat) : Decidable (bareK k) := by unfold bareK; infer_instance
def headU (p : Pc) : Un := ⟨kindP p, p.r, p.at_, p.at_ + p.w, true⟩
def Un.ext (u : Un) (p : Pc) : Un := ⟨u.k, u.r, u.a, u.z + p.w, false⟩
/-- the units of pieces, behind a unit that is open -/
def uGo : Option Un → List Pc → List Un
  | none, [] => []
  | some u, [] => [u]
  | none, p :: ps => uGo (some (headU p)) ps
  | some u, p :: ps => if kindP p = 2 ∧ ¬ bareK u.k then uGo (some (u.ext p)) ps else u :: uGo (some (headU p)) ps
def unitsL (l : List UInt8) : List Un := uGo none (pieces l)
theorem uGo_none (p : Pc) (ps : List Pc) : uGo none (p :: ps) = uGo (some (headU p)) ps := rfl
theorem uGo_mark {u : Un} {p : Pc} {ps : List Pc} (h : kindP p = 2 ∧ ¬ bareK u.k) : uGo (some u) (p :: ps) = uGo (some (u.ext p)) ps := if_pos h
theorem uGo_free {u : Un} {p : Pc} {ps : List Pc} (h : ¬ (kindP p = 2 ∧ ¬ bareK u.k)) : uGo (some u) (p :: ps) = u :: uGo (some (headU p)) ps := if_neg h
/-- a token: its kind, its span -/
structure Tk where
  k : Nat
  a : Nat
  z : Nat
  deriving DecidableEq
def Tk.cs (t : Tk) : List Value := [.int .i64 (t.k : Int), .int .i64 (t.a : Int), .int .i64 (t.z : Int)]
def Tk.v (t : Tk) : Value := .agg t.cs.toArray
/-- may it join two letters, two digits? -/
def jointU (u : Un) : Prop := (u.r = 39 ∨ u.r = 8217 ∨ u.r = 45 ∨ u.r = 8208) ∧ u.o = true
def dotU (u : Un) : Prop := (u.r = 44 ∨ u.r = 46) ∧ u.o = true
instance (u : Un) : Decidable (jointU u) := by unfold jointU; infer_instance
instance (u : Un) : Decidable (dotU u) := by unfold dotU; infer_instance
/-- what the scanner holds: its state, the open token, what waits -/
structure Sc where
  st : Nat
  t : Tk
  h : Un
def scan0 : Sc := ⟨0, ⟨0, 0, 0⟩, ⟨0, 0, 0, 0, false⟩⟩
/-- what becomes of a unit: 0 it begins a token, 1 it is taken, 2 it waits; and the state behind it -/
def fitsS (st : Nat) (u : Un) : Nat × Nat :=
  if (st = 1 ∨ st = 2) ∧ u.k = 1 then (1, 1)
  else if st = 1 ∧ jointU u then (2, 2)
  else if (st = 3 ∨ st = 4) ∧ u.k = 3 then (1, 3)
  else if st = 3 ∧ dotU u then (2, 4)
  else if st = 5 ∧ u.k = 5 then (1, 5)
  else if st = 6 ∧ u.k = 11 then (1, 6)
  else if st = 8 ∧ u.k = 4 ∧ u.r = 10 then (1, 7)
  else (0, st)
def endS (s : Sc) : List Tk := if s.st = 0 then [] else if s.st = 2 ∨ s.st = 4 then [s.t, ⟨5, s.h.a, s.h.z⟩] else [s.t]
/-- the kind of a token that begins with a unit of a kind, and the state behind it -/
def beginK (u : Un) : Nat × Nat :=
  if u.k = 1 then (1, 1) else if u.k = 3 then (2, 3) else if u.k = 5 then (3, 5) else if u.k = 11 then (7, 6)
  else if u.k = 4 then (4, if u.r = 13 then 8 else 7) else if u.k = 6 ∨ u.k = 7 ∨ u.k = 8 then (5, 9) else (6, 9)
def Sc.begin_ (s : Sc) (u : Un) : Sc := ⟨(beginK u).2, ⟨(beginK u).1, u.a, u.z⟩, s.h⟩
def Sc.step (s : Sc) (u : Un) : Sc :=
  if (fitsS s.st u).1 = 1 then ⟨(fitsS s.st u).2, ⟨s.t.k, s.t.a, u.z⟩, s.h⟩ else if (fitsS s.st u).1 = 2 then ⟨(fitsS s.st u).2, s.t, u⟩ else s.begin_ u
def Sc.told (s : Sc) (u : Un) : List Tk := if (fitsS s.st u).1 = 0 then endS s else []
def scGo : Sc → List Un → List Tk
  | s, [] => endS s
  | s, u :: us => s.told u ++ scGo (s.step u) us
def tokens (l : List UInt8) : List Tk := scGo scan0 (unitsL l)
end Go.Eng

/-
  The scanner's tokens are the reference's: run by run. No condition.
-/
namespace Go.Eng
open Go
theorem fitsS_le (st : Nat) (u : Un) : (fitsS st u).1 ≤ 2 ∧ ((fitsS st u).1 = 1 → (fitsS st u).2 ≠ 2 ∧ (fitsS st u).2 ≠ 4) := by
  unfold fitsS
  (repeat' split) <;> simp
theorem beginK_st (u : Un) : (beginK u).2 ≠ 2 ∧ (beginK u).2 ≠ 4 ∧ (beginK u).2 ≠ 0 := by
  unfold beginK
  (repeat' split) <;> simp
/-- what waits matters only where something waits -/
theorem scGo_h : ∀ (us : List Un) (st : Nat) (t : Tk) (h h' : Un), st ≠ 2 → st ≠ 4 → scGo ⟨st, t, h⟩ us = scGo ⟨st, t, h'⟩ us
  | [], st, t, h, h', h2, h4 => by simp [scGo, endS, h2, h4]
  | u :: us, st, t, h, h', h2, h4 => by
    have hb := beginK_st u
    obtain ⟨f1, f2⟩ := fitsS_le st u
    have he : endS ⟨st, t, h⟩ = endS ⟨st, t, h'⟩ := by simp [endS, h2, h4]
    simp only [scGo, Sc.told, Sc.step, Sc.begin_, he]
    by_cases g1 : (fitsS st u).1 = 1
    · rw [if_pos g1, if_pos g1, scGo_h us _ _ h h' (f2 g1).1 (f2 g1).2]
    · rw [if_neg g1, if_neg g1]
      by_cases g2 : (fitsS st u).1 = 2
      · rw [if_pos g2, if_pos g2]
      · rw [if_neg g2, if_neg g2, scGo_h us _ _ h h' hb.1 hb.2.1]
theorem fits0 (u : Un) : fitsS 0 u = (0, 0) := by simp [fitsS]
theorem scan0_cons (u : Un) (us : List Un) (h : Un) : scGo scan0 (u :: us) = scGo ⟨(beginK u).2, ⟨(beginK u).1, u.a, u.z⟩, h⟩ us := by
  have hb := beginK_st u
  simp only [scGo, Sc.told, Sc.step, Sc.begin_, scan0, fits0]
  simp only [endS, if_true, List.nil_append]
  exact scGo_h us _ _ _ _ hb.1 hb.2.1
theorem scan0_nil : scGo scan0 [] = [] := rfl
/-- a unit that begins a token -/
theorem scGo_free {s : Sc} {u : Un} {us : List Un} (h : (fitsS s.st u).1 = 0) : scGo s (u :: us) = endS s ++ scGo scan0 (u :: us) := by
  rw [scan0_cons u us s.h]
  simp only [scGo, Sc.told, Sc.step, Sc.begin_, h, if_true]
  rfl
/-- how many units are taken behind the first one -/
def runU (k : Nat) (J : Un → Bool) : List Un → Nat
  | [] => 0
  | [v] => if v.k = k then 1 else 0
  | v :: w :: ws => if v.k = k then runU k J (w :: ws) + 1 else if J v = true ∧ w.k = k then runU k J ws + 2 else 0
theorem runU_le (k : Nat) (J : Un → Bool) : ∀ us : List Un, runU k J us ≤ us.length
  | [] => Nat.le_refl _
  | [v] => by unfold runU; split <;> simp
  | v :: w :: ws => by
    have h1 := runU_le k J (w :: ws)
    have h2 := runU_le k J ws
    unfold runU
    simp only [List.length_cons] at *
    split
    · omega
    · split <;> omega
def lastZ (z : Nat) (us : List Un) (n : Nat) : Nat := if n = 0 then z else ((us[n - 1]?).map Un.z).getD z
/-- a unit's kind is its rune's -/
def UOk (u : Un) : Prop := (u.k = 11 ∧ u.r = 65533) ∨ (u.k = kindN u.r)
/-- a run of a kind, with joints -/
theorem run_scan {k st1 st2 : Nat} {J : Un → Bool} (hst1 : st1 ≠ 0 ∧ st1 ≠ 2 ∧ st1 ≠ 4) (hst2 : st2 = 2 ∨ st2 = 4)
    (h1 : ∀ u : Un, u.k = k → fitsS st1 u = (1, st1) ∧ fitsS st2 u = (1, st1)) (h2 : ∀ u : Un, u.k ≠ k → J u = true → fitsS st1 u = (2, st2)) (h3 : ∀ u : Un, u.k ≠ k → J u = false → (fitsS st1 u).1 = 0)
    (h4 : ∀ u : Un, u.k ≠ k → (fitsS st2 u).1 = 0) (hJk : ∀ us : List Un, (∀ u ∈ us, UOk u) → ∀ u ∈ us, J u = true → (u.k = 6 ∨ u.k = 7 ∨ u.k = 8)) :
    ∀ (us : List Un) (_ : ∀ u ∈ us, UOk u) (t : Tk) (h : Un), scGo ⟨st1, t, h⟩ us = ⟨t.k, t.a, lastZ t.z us (runU k J us)⟩ :: scGo scan0 (us.drop (runU k J us))
  | [], ho, t, h => by simp [scGo, endS, hst1, runU, lastZ, scan0_nil]
  | [v], ho, t, h => by
    by_cases hk : v.k = k
    · have e : runU k J [v] = 1 := by unfold runU; rw [if_pos hk]
      rw [e]
      simp [scGo, Sc.told, Sc.step, (h1 v hk).1, endS, hst1, lastZ, scan0]
    · have e : runU k J [v] = 0 := by unfold runU; rw [if_neg hk]
      rw [e]
      cases hJ : J v with
      | false =>
        rw [scGo_free (h3 v hk hJ)]
        simp [endS, hst1, lastZ]
      | true =>
        have hb : beginK v = (5, 9) := by unfold beginK; have := hJk _ ho v List.mem_cons_self hJ; rw [if_neg (by omega), if_neg (by omega), if_neg (by omega), if_neg (by omega), if_neg (by omega), if_pos this]
        rw [List.drop_zero, scan0_cons v [] h, hb]
        have hs2 : st2 ≠ 0 := by omega
        simp [scGo, Sc.told, Sc.step, h2 v hk hJ, endS, hs2, hst2, lastZ]
  | v :: w :: ws, ho, t, h => by
    by_cases hk : v.k = k
    · have e : runU k J (v :: w :: ws) = runU k J (w :: ws) + 1 := by rw [runU, if_pos hk]
      have hs : scGo ⟨st1, t, h⟩ (v :: w :: ws) = scGo ⟨st1, ⟨t.k, t.a, v.z⟩, h⟩ (w :: ws) := by
        rw [scGo]; simp [Sc.told, Sc.step, (h1 v hk).1]
      rw [hs, run_scan hst1 hst2 h1 h2 h3 h4 hJk (w :: ws) (fun x hx => ho x (List.mem_cons_of_mem _ hx)), e, List.drop_succ_cons]
      congr 2
      unfold lastZ
      by_cases hn : runU k J (w :: ws) = 0
      · rw [if_pos hn, if_neg (by omega), hn]; rfl
      · rw [if_neg hn, if_neg (by omega)]
        obtain ⟨n, hn2⟩ : ∃ n, runU k J (w :: ws) = n + 1 := ⟨_, (Nat.succ_pred_eq_of_ne_zero hn).symm⟩
        have hle := runU_le k J (w :: ws)
        rw [hn2] at hle ⊢
        simp only [Nat.add_sub_cancel, List.getElem?_cons_succ]
        rw [List.getElem?_eq_getElem (by omega)]; rfl
    · cases hJ : J v with
      | false =>
        have e : runU k J (v :: w :: ws) = 0 := by rw [runU, if_neg hk, if_neg (by rw [hJ]; simp)]
        rw [e, scGo_free (h3 v hk hJ)]
        simp [endS, hst1, lastZ]
      | true =>
        have hs : scGo ⟨st1, t, h⟩ (v :: w :: ws) = scGo ⟨st2, t, v⟩ (w :: ws) := by
          rw [scGo]; simp [Sc.told, Sc.step, h2 v hk hJ]
        by_cases hw : w.k = k
        · have e : runU k J (v :: w :: ws) = runU k J ws + 2 := by rw [runU, if_neg hk, if_pos ⟨hJ, hw⟩]
          have hs2 : scGo ⟨st2, t, v⟩ (w :: ws) = scGo ⟨st1, ⟨t.k, t.a, w.z⟩, v⟩ ws := by
            rw [scGo]; simp [Sc.told, Sc.step, (h1 w hw).2]
          rw [hs, hs2, run_scan hst1 hst2 h1 h2 h3 h4 hJk ws (fun x hx => ho x (List.mem_cons_of_mem _ (List.mem_cons_of_mem _ hx))), e, List.drop_succ_cons, List.drop_succ_cons]
          congr 2
          unfold lastZ
          by_cases hn : runU k J ws = 0
          · rw [if_pos hn, if_neg (by omega), hn]; rfl
          · rw [if_neg hn, if_neg (by omega)]
            obtain ⟨n, hn2⟩ : ∃ n, runU k J ws = n + 1 := ⟨_, (Nat.succ_pred_eq_of_ne_zero hn).symm⟩
            have hle := runU_le k J ws
            rw [hn2] at hle ⊢
            simp only [Nat.add_sub_cancel, show n + 1 + 2 - 1 = n + 2 by omega, List.getElem?_cons_succ]
            rw [List.getElem?_eq_getElem (by omega)]; rfl
        · have e : runU k J (v :: w :: ws) = 0 := by rw [runU, if_neg hk, if_neg (fun h => hw h.2)]
          have hb : beginK v = (5, 9) := by unfold beginK; have := hJk _ ho v List.mem_cons_self hJ; rw [if_neg (by omega), if_neg (by omega), if_neg (by omega), if_neg (by omega), if_neg (by omega), if_pos this]
          have hs2 : st2 ≠ 0 := by omega
          have h9 : ∀ t' h', scGo ⟨9, t', h'⟩ (w :: ws) = t' :: scGo scan0 (w :: ws) := fun t' h' => by
            rw [scGo_free (by simp [fitsS])]; simp [endS]
          rw [hs, e, List.drop_zero, scan0_cons v (w :: ws) h, hb, h9, scGo_free (h4 w hw)]
          simp [endS, hs2, hst2, lastZ]
end Go.Eng

/-
  The reference's tokens; units and tokens follow one another; the texts of tokens. No condition.
-/
namespace Go.Eng
open Go
/-- a run of one kind alone -/
theorem run_plain {k st : Nat} (hst : st ≠ 0 ∧ st ≠ 2 ∧ st ≠ 4) (h1 : ∀ u : Un, u.k = k → fitsS st u = (1, st)) (h3 : ∀ u : Un, u.k ≠ k → (fitsS st u).1 = 0) :
    ∀ (us : List Un) (t : Tk) (h : Un), scGo ⟨st, t, h⟩ us = ⟨t.k, t.a, lastZ t.z us (runU k (fun _ => false) us)⟩ :: scGo scan0 (us.drop (runU k (fun _ => false) us))
  | [], t, h => by simp [scGo, endS, hst, runU, lastZ, scan0_nil]
  | v :: vs, t, h => by
    by_cases hk : v.k = k
    · have e : runU k (fun _ => false) (v :: vs) = runU k (fun _ => false) vs + 1 := by
        cases vs with
        | nil => simp [runU, hk]
        | cons w ws => rw [runU, if_pos hk]
      have hs : scGo ⟨st, t, h⟩ (v :: vs) = scGo ⟨st, ⟨t.k, t.a, v.z⟩, h⟩ vs := by
        rw [scGo]; simp [Sc.told, Sc.step, h1 v hk]
      rw [hs, run_plain hst h1 h3 vs, e, List.drop_succ_cons]
      congr 2
      unfold lastZ
      by_cases hn : runU k (fun _ => false) vs = 0
      · rw [if_pos hn, if_neg (by omega), hn]; rfl
      · rw [if_neg hn, if_neg (by omega)]
        obtain ⟨n, hn2⟩ : ∃ n, runU k (fun _ => false) vs = n + 1 := ⟨_, (Nat.succ_pred_eq_of_ne_zero hn).symm⟩
        have hle := runU_le k (fun _ => false) vs
        rw [hn2] at hle ⊢
        simp only [Nat.add_sub_cancel, List.getElem?_cons_succ]
        rw [List.getElem?_eq_getElem (by omega)]; rfl
    · have e : runU k (fun _ => false) (v :: vs) = 0 := by
        cases vs with
        | nil => simp [runU, hk]
        | cons w ws => rw [runU, if_neg hk, if_neg (by simp)]
      rw [e, scGo_free (h3 v hk)]
      simp [endS, hst, lastZ]
def jointB (u : Un) : Bool := decide (jointU u)
def dotB (u : Un) : Bool := decide (dotU u)
/-- how many units a token takes behind its first one -/
def takeN (u : Un) (us : List Un) : Nat :=
  if u.k = 1 then runU 1 jointB us else if u.k = 3 then runU 3 dotB us else if u.k = 5 then runU 5 (fun _ => false) us else if u.k = 11 then runU 11 (fun _ => false) us
  else if u.k = 4 ∧ u.r = 13 then (match us with | [] => 0 | v :: _ => if v.k = 4 ∧ v.r = 10 then 1 else 0) else 0
theorem takeN_le (u : Un) (us : List Un) : takeN u us ≤ us.length := by
  unfold takeN
  have h1 := runU_le 1 jointB us
  have h2 := runU_le 3 dotB us
  have h3 := runU_le 5 (fun _ => false) us
  have h4 := runU_le 11 (fun _ => false) us
  (repeat' split) <;> simp_all
def rTok : Nat → List Un → List Tk
  | 0, _ => []
  | _ + 1, [] => []
  | f + 1, u :: us => ⟨(beginK u).1, u.a, lastZ u.z us (takeN u us)⟩ :: rTok f (us.drop (takeN u us))
theorem joint_kind {u : Un} (ho : UOk u) (h : jointB u = true) : u.k = 6 ∨ u.k = 7 ∨ u.k = 8 := by
  have h := of_decide_eq_true h
  rcases ho with ⟨_, h2⟩ | h2
  · rcases h with ⟨h1 | h1 | h1 | h1, _⟩ <;> omega
  · rcases h with ⟨h1 | h1 | h1 | h1, _⟩ <;> rw [h1] at h2 <;> rw [h2] <;> decide
theorem dot_kind {u : Un} (ho : UOk u) (h : dotB u = true) : u.k = 6 ∨ u.k = 7 ∨ u.k = 8 := by
  have h := of_decide_eq_true h
  rcases ho with ⟨_, h2⟩ | h2
  · rcases h with ⟨h1 | h1, _⟩ <;> omega
  · rcases h with ⟨h1 | h1, _⟩ <;> rw [h1] at h2 <;> rw [h2] <;> decide
theorem run_word {us : List Un} (ho : ∀ u ∈ us, UOk u) {t : Tk} {h : Un} : scGo ⟨1, t, h⟩ us = ⟨t.k, t.a, lastZ t.z us (runU 1 jointB us)⟩ :: scGo scan0 (us.drop (runU 1 jointB us)) :=
  run_scan (st2 := 2) (by decide) (.inl rfl) (fun u hu => by simp [fitsS, hu]) (fun u hu hJ => by have := of_decide_eq_true hJ; simp [fitsS, hu, this]) (fun u hu hJ => by have := of_decide_eq_false hJ; simp [fitsS, hu, this])
    (fun u hu => by simp [fitsS, hu]) (fun us ho u hu hJ => joint_kind (ho u hu) hJ) us ho t h
theorem run_number {us : List Un} (ho : ∀ u ∈ us, UOk u) {t : Tk} {h : Un} : scGo ⟨3, t, h⟩ us = ⟨t.k, t.a, lastZ t.z us (runU 3 dotB us)⟩ :: scGo scan0 (us.drop (runU 3 dotB us)) :=
  run_scan (st2 := 4) (by decide) (.inr rfl) (fun u hu => by simp [fitsS, hu]) (fun u hu hJ => by have := of_decide_eq_true hJ; simp [fitsS, hu, this]) (fun u hu hJ => by have := of_decide_eq_false hJ; simp [fitsS, hu, this])
    (fun u hu => by simp [fitsS, hu]) (fun us ho u hu hJ => dot_kind (ho u hu) hJ) us ho t h
theorem scan_run : ∀ (f : Nat) (us : List Un), us.length ≤ f → (∀ u ∈ us, UOk u) → scGo scan0 us = rTok f us
  | 0, [], _, _ => rfl
  | 0, u :: us, h, _ => by simp at h
  | f + 1, [], _, _ => rfl
  | f + 1, u :: us, h, ho => by
    have hle := takeN_le u us
    have hrest : ∀ n, n ≤ us.length → scGo scan0 (us.drop n) = rTok f (us.drop n) := fun n _ => scan_run f _ (by rw [List.length_drop]; rw [List.length_cons] at h; omega) fun x hx => ho x (List.mem_cons_of_mem _ (List.mem_of_mem_drop hx))
    rw [rTok, ← hrest _ hle, scan0_cons u us ⟨0, 0, 0, 0, false⟩]
    have hou := fun (x : Un) (hx : x ∈ us) => ho x (List.mem_cons_of_mem _ hx)
    by_cases k1 : u.k = 1
    · have e : takeN u us = runU 1 jointB us := by unfold takeN; rw [if_pos k1]
      have b : beginK u = (1, 1) := by unfold beginK; rw [if_pos k1]
      rw [e, b]
      exact run_word hou
    by_cases k3 : u.k = 3
    · have e : takeN u us = runU 3 dotB us := by unfold takeN; rw [if_neg k1, if_pos k3]
      have b : beginK u = (2, 3) := by unfold beginK; rw [if_neg k1, if_pos k3]
      rw [e, b]
      exact run_number hou
    by_cases k5 : u.k = 5
    · have e : takeN u us = runU 5 (fun _ => false) us := by unfold takeN; rw [if_neg k1, if_neg k3, if_pos k5]
      have b : beginK u = (3, 5) := by unfold beginK; rw [if_neg k1, if_neg k3, if_pos k5]
      rw [e, b]
      exact run_plain (by decide) (fun v hv => by simp [fitsS, hv]) (fun v hv => by simp [fitsS, hv]) us _ _
    by_cases k11 : u.k = 11
    · have e : takeN u us = runU 11 (fun _ => false) us := by unfold takeN; rw [if_neg k1, if_neg k3, if_neg k5, if_pos k11]
      have b : beginK u = (7, 6) := by unfold beginK; rw [if_neg k1, if_neg k3, if_neg k5, if_pos k11]
      rw [e, b]
      exact run_plain (by decide) (fun v hv => by simp [fitsS, hv]) (fun v hv => by simp [fitsS, hv]) us _ _
    have hz : ∀ (st : Nat) (t : Tk) (vs : List Un) (h' : Un), (∀ v, (fitsS st v).1 = 0) → st ≠ 0 → st ≠ 2 → st ≠ 4 → scGo ⟨st, t, h'⟩ vs = t :: scGo scan0 vs := by
      intro st t vs h' hf q0 q2 q4
      cases vs with
      | nil => simp [scGo, endS, q0, q2, q4, scan0]
      | cons v vs => rw [scGo_free (hf v)]; simp [endS, q0, q2, q4]
    have f7 : ∀ v, (fitsS 7 v).1 = 0 := fun v => by simp [fitsS]
    have f9 : ∀ v, (fitsS 9 v).1 = 0 := fun v => by simp [fitsS]
    by_cases k4 : u.k = 4
    · by_cases r13 : u.r = 13
      · have b : beginK u = (4, 8) := by unfold beginK; rw [if_neg k1, if_neg k3, if_neg k5, if_neg k11, if_pos k4, if_pos r13]
        rw [b]
        cases us with
        | nil => simp [takeN, k1, k3, k5, k11, scGo, endS, lastZ, scan0_nil]
        | cons v vs =>
          by_cases hv : v.k = 4 ∧ v.r = 10
          · have e : takeN u (v :: vs) = 1 := by unfold takeN; rw [if_neg k1, if_neg k3, if_neg k5, if_neg k11, if_pos ⟨k4, r13⟩]; simp [hv]
            have hs : scGo ⟨8, ⟨4, u.a, u.z⟩, ⟨0, 0, 0, 0, false⟩⟩ (v :: vs) = scGo ⟨7, ⟨4, u.a, v.z⟩, ⟨0, 0, 0, 0, false⟩⟩ vs := by
              rw [scGo]; simp [Sc.told, Sc.step, fitsS, hv]
            rw [hs, e, hz 7 _ _ _ f7 (by decide) (by decide) (by decide)]
            simp [lastZ]
          · have e : takeN u (v :: vs) = 0 := by unfold takeN; rw [if_neg k1, if_neg k3, if_neg k5, if_neg k11, if_pos ⟨k4, r13⟩]; simp only; rw [if_neg hv]
            rw [e, scGo_free (by simp only [fitsS]; simp; rw [if_neg hv])]
            simp [endS, lastZ]
      · have b : beginK u = (4, 7) := by unfold beginK; rw [if_neg k1, if_neg k3, if_neg k5, if_neg k11, if_pos k4, if_neg r13]
        have e : takeN u us = 0 := by unfold takeN; rw [if_neg k1, if_neg k3, if_neg k5, if_neg k11, if_neg (fun h => r13 h.2)]
        rw [b, e, hz 7 _ _ _ f7 (by decide) (by decide) (by decide)]
        simp [lastZ]
    · have e : takeN u us = 0 := by unfold takeN; rw [if_neg k1, if_neg k3, if_neg k5, if_neg k11, if_neg (fun h => k4 h.1)]
      have b : (beginK u).2 = 9 := by unfold beginK; rw [if_neg k1, if_neg k3, if_neg k5, if_neg k11, if_neg k4]; split <;> rfl
      rw [b, e, hz 9 _ _ _ f9 (by decide) (by decide) (by decide)]
      simp [lastZ]
end Go.Eng

