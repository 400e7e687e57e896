/-
  Parts of a walk, joined: EngS EngW EngX EngT ET1 ET2 ET3 ET4 ET5 ET6 E1 EV E4 ET7 E6 E8 E2 E9 ET8. No condition.
-/
import Derived.Test.YtelgegefmjlimaaP2
import Derived.Test.YtelgegefmjlimaaP3
import Derived.Test.YtelgegefmjlimaaP1
import Derived.Test.YtelgegefmjlimaaProg
import Derived.Test.YtelgegefmjlimaaRows
set_option linter.all false
/-
  A walk's engine, eighteenth part: a region that draws its order, where some operations change the heap: what is calm is done first, what acts is done in every order that there is. No condition.
-/
set_option linter.all false
namespace Go.Eng
open Go Go.RowKit
/-- what an operation owes that may change the heap -/
def QE (w0 : World) (d : Nat) (ds : List Nat) (S : SHeap) (m : Mem) (K : Value → Mem → SHeap → SHeap → Prop) : Exit → Act → World → Prop
  | .normal, a, w => ∃ v m' B U, a.tmps[d]? = some v ∧ a.defers = marks ds ∧ m.le m' ∧ Sat w0 m' (S ++ B ++ U) w ∧ K v m' (S ++ B) U
  | _, _, _ => False
/-- the same of an operation without an answer: a store -/
def QN (w0 : World) (ds : List Nat) (S : SHeap) (m : Mem) (K : Mem → SHeap → SHeap → Prop) : Exit → Act → World → Prop
  | .normal, a, w => ∃ m' B U, a.defers = marks ds ∧ m.le m' ∧ Sat w0 m' (S ++ B ++ U) w ∧ K m' (S ++ B) U
  | _, _, _ => False
def readyV (V : Nat) (o : Oper) : Prop := ∀ e ∈ o.after, bind1 e = true → V.testBit e.on = true
section
variable {P : Program} {ro : Option Nat} {n : Nat} {w0 : World} {Q : Exit → Act → World → Prop} {r : Env} {ds : List Nat} {m : Mem} {H : SHeap}
theorem WQ.acted {d : Nat} {S B U : SHeap} {m0 : Mem} {K : Value → Mem → SHeap → SHeap → Prop} {v : Value} (hv : r.get d = some v) (hm : m0.le m) (hh : ∀ w, Sat w0 m H w → Sat w0 m (S ++ B ++ U) w) (hK : K v m (S ++ B) U) :
    WQ n w0 (QE w0 d ds S m0 K) .normal r ds m H := fun _ w ho hs => ⟨v, m, B, U, ho.at_ _ _ hv, rfl, hm, hh w hs, hK⟩
/-- what is left of a region: V tells which operations are done, or calm; S is what none of them changes -/
def WE (P : Program) (ro : Option Nat) (n : Nat) (w0 : World) (l : List Oper) (g : Nat) (ds : List Nat) (K : Env → Mem → SHeap → SHeap → Prop) : Nat → Nat → Env → Mem → SHeap → SHeap → Prop
  | 0, _, _, _, _, _ => False
  | k + 1, V, r, m, S, U =>
    ((∀ i, i < g → V.testBit i = true) ∧ K r m S U) ∨
    (∃ i o d v, i < g ∧ l[i]? = some o ∧ V.testBit i = false ∧ readyV V o ∧ o.dst = some d ∧ (∀ c, o.op ≠ .defer c) ∧
      (∀ m' F, m.le m' → WL P ro n w0 l.toArray (Q1 w0 d v ds m' (S ++ F)) [o] (Env.sel (o.looksAt l.toArray) r) ds m' (S ++ F)) ∧
      WE P ro n w0 l g ds K k (V ||| 1 <<< i) ((d, v) :: r) m S U) ∨
    ((∃ i, i < g ∧ V.testBit i = false) ∧ ∀ i o, i < g → l[i]? = some o → V.testBit i = false → readyV V o → (∃ d, o.dst = some d ∧ (∀ c, o.op ≠ .defer c) ∧
      WL P ro n w0 l.toArray (QE w0 d ds S m fun v m' S' U' => WE P ro n w0 l g ds K k (V ||| 1 <<< i) ((d, v) :: r) m' S' U') [o] (Env.sel (o.looksAt l.toArray) r) ds m (S ++ U)) ∨
      (o.dst = none ∧ (∀ c, o.op ≠ .defer c) ∧ WL P ro n w0 l.toArray (QN w0 ds S m fun m' S' U' => WE P ro n w0 l g ds K k (V ||| 1 <<< i) r m' S' U') [o] (Env.sel (o.looksAt l.toArray) r) ds m (S ++ U)))
theorem bit_set (V i j : Nat) : (V ||| 1 <<< i).testBit j = (V.testBit j || decide (i = j)) := by
  rw [Nat.testBit_or, Nat.one_shiftLeft, Nat.testBit_two_pow]
theorem bit_keep {V i j : Nat} (h : V.testBit j = true) : (V ||| 1 <<< i).testBit j = true := by rw [bit_set, h]; rfl
theorem bit_self (V i : Nat) : (V ||| 1 <<< i).testBit i = true := by rw [bit_set]; simp
theorem bit_old {V i j : Nat} (h : (V ||| 1 <<< i).testBit j = true) (hne : j ≠ i) : V.testBit j = true := by
  rw [bit_set] at h
  have : decide (i = j) = false := by simp; exact fun e => hne e.symm
  simpa [this] using h
theorem mask_in {l : List Oper} {g : Nat} {M : List Nat} (ok : DrawOk l g M) {p : Nat → Prop} {b : Nat} (hb : b ≤ l.length) (hc : ∀ j o, j < b → l[j]? = some o → p j → ∀ e ∈ o.after, bind1 e = true → p e.on) :
    ∀ j o, j < b → l[j]? = some o → (∀ e ∈ o.after, bind1 e = true → p e.on) → ∀ i, (M.getD j 0).testBit i = true → p i := by
  intro j
  induction j using Nat.strongRecOn with
  | _ j ih =>
    intro o hjb ho hw i hi
    rw [← ok.sub j o ho, Nat.testBit_and, Bool.and_eq_true] at hi
    rcases mask_bits M o.after.toList 0 i hi.2 with h | ⟨e, he, hbd, h⟩
    · simp at h
    · have he' : e ∈ o.after := by simpa using he
      have hon := hw e he' hbd
      rcases h with rfl | h
      · exact hon
      · have hlt := ok.down j o ho e he' hbd
        have hl : e.on < l.length := by omega
        exact ih e.on hlt l[e.on] (by omega) (List.getElem?_eq_getElem hl) (hc e.on _ (by omega) (List.getElem?_eq_getElem hl) hon) i h
/-- from what an operation owes, whatever comes behind it -/
theorem wpOp_of_post {ops : Array Oper} {i : Nat} {o : Oper} {d : Nat} {tmps : Array Value} {w : World} {Qx : Exit → Act → World → Prop} {K : Act → World → Prop} (hi : ops[i]? = some o) (hd : o.dst = some d) (hnd : ∀ c, o.op ≠ .defer c)
    (hdf : ∀ a w, Qx .normal a w → a.defers = marks ds) (hbad : ∀ e a w, Qx e a w → e = .normal)
    (h : wpListIn (FW ro) 0 P ops Qx [o] ⟨tmps, marks ds⟩ w) (hK : ∀ v0 w', Qx .normal ⟨tmps.setIfInBounds d v0, marks ds⟩ w' → K ⟨tmps.setIfInBounds d v0, marks ds⟩ w') : wpOpIn (FW ro) 0 P ops Q i K ⟨tmps, marks ds⟩ w := by
  have key : ∀ v0 w', Qx .normal ((Act.mk tmps (marks ds)).put o.dst v0) w' → K ((Act.mk tmps (marks ds)).put o.dst v0) w' := by
    intro v0 w' hq
    rw [hd] at hq ⊢
    exact hK v0 w' hq
  unfold wpOpIn
  rw [hi]
  unfold wpListIn at h
  simp only
  split
  · rename_i hw
    rw [if_pos hw] at h
    refine ⟨h.1, ?_⟩
    have h2 := h.2
    rw [semAt_exec (FW ro).round _ _ hnd] at h2 ⊢
    generalize hr : (execOp (Act.mk tmps (marks ds)).eval o).run P w = res at *
    cases res with
    | ok x w' =>
      cases x <;> simp only [Oper.uponIn] at h2 ⊢
      case value v0 => exact key _ _ h2
      case skip => exact key _ _ h2
      case defer df =>
        exfalso
        have h4 := congrArg List.length (hdf _ _ h2)
        rw [hd] at h4
        simp [Act.put] at h4
      case enter f args => exact ⟨h2.1, CallsIn.mono h2.2 fun e w'' he => by
        cases e with
        | returned v0 => exact key _ _ he
        | panicked chain => exact absurd (hbad _ _ _ he) (by simp)
        | outgrown => obtain ⟨a, b, hh⟩ := he; exact absurd (hbad _ _ _ hh) (by simp)⟩
      case row rw' args => exact ⟨h2.1, RowsIn.mono h2.2 fun v0 w'' he => key _ _ he⟩
      case round l f tm asg bd => exact ⟨h2.1, RoundIn.mono h2.2 fun e w'' he => by
        cases e with
        | returned v0 => exact key _ _ he
        | panicked chain => exact absurd (hbad _ _ _ he) (by simp)
        | outgrown => obtain ⟨a, b, hh⟩ := he; exact absurd (hbad _ _ _ hh) (by simp)⟩
    | halt x w' =>
      cases x <;> simp only [Oper.uponIn] at h2 ⊢
      all_goals first | exact h2.elim | exact absurd (hbad _ _ _ h2) (by simp) | exact absurd (hbad _ _ _ h2.2) (by simp) | skip
  · rename_i hw
    rw [if_neg hw] at h
    exact ⟨h.1, key _ _ h.2⟩
/-- the same without an answer -/
theorem wpOp_of_postN {ops : Array Oper} {i : Nat} {o : Oper} {tmps : Array Value} {w : World} {Qx : Exit → Act → World → Prop} {K : Act → World → Prop} (hi : ops[i]? = some o) (hd : o.dst = none) (hnd : ∀ c, o.op ≠ .defer c)
    (hdf : ∀ a w, Qx .normal a w → a.defers = marks ds) (hbad : ∀ e a w, Qx e a w → e = .normal)
    (h : wpListIn (FW ro) 0 P ops Qx [o] ⟨tmps, marks ds⟩ w) (hK : ∀ w', Qx .normal ⟨tmps, marks ds⟩ w' → K ⟨tmps, marks ds⟩ w') : wpOpIn (FW ro) 0 P ops Q i K ⟨tmps, marks ds⟩ w := by
  have key : ∀ v0 w', Qx .normal ((Act.mk tmps (marks ds)).put o.dst v0) w' → K ((Act.mk tmps (marks ds)).put o.dst v0) w' := by
    intro v0 w' hq
    rw [hd] at hq ⊢
    exact hK w' hq
  unfold wpOpIn
  rw [hi]
  unfold wpListIn at h
  simp only
  split
  · rename_i hw
    rw [if_pos hw] at h
    refine ⟨h.1, ?_⟩
    have h2 := h.2
    rw [semAt_exec (FW ro).round _ _ hnd] at h2 ⊢
    generalize hr : (execOp (Act.mk tmps (marks ds)).eval o).run P w = res at *
    cases res with
    | ok x w' =>
      cases x <;> simp only [Oper.uponIn] at h2 ⊢
      case value v0 => exact key _ _ h2
      case skip => exact key _ _ h2
      case defer df =>
        exfalso
        have h4 := congrArg List.length (hdf _ _ h2)
        rw [hd] at h4
        simp [Act.put] at h4
      case enter f args => exact ⟨h2.1, CallsIn.mono h2.2 fun e w'' he => by
        cases e with
        | returned v0 => exact key _ _ he
        | panicked chain => exact absurd (hbad _ _ _ he) (by simp)
        | outgrown => obtain ⟨a, b, hh⟩ := he; exact absurd (hbad _ _ _ hh) (by simp)⟩
      case row rw' args => exact ⟨h2.1, RowsIn.mono h2.2 fun v0 w'' he => key _ _ he⟩
      case round l f tm asg bd => exact ⟨h2.1, RoundIn.mono h2.2 fun e w'' he => by
        cases e with
        | returned v0 => exact key _ _ he
        | panicked chain => exact absurd (hbad _ _ _ he) (by simp)
        | outgrown => obtain ⟨a, b, hh⟩ := he; exact absurd (hbad _ _ _ hh) (by simp)⟩
    | halt x w' =>
      cases x <;> simp only [Oper.uponIn] at h2 ⊢
      all_goals first | exact h2.elim | exact absurd (hbad _ _ _ h2) (by simp) | exact absurd (hbad _ _ _ h2.2) (by simp) | skip
  · rename_i hw
    rw [if_neg hw] at h
    exact ⟨h.1, key _ _ h.2⟩
theorem count_set {l : List Oper} {listed : Array Bool} {i : Nat} (hs : listed.size = l.length) (hil : i < l.length) (hnl : listed.getD i false = false) :
    ((List.range l.length).filter fun k => !(listed.setIfInBounds i true).getD k false).length < ((List.range l.length).filter fun k => !listed.getD k false).length := by
  have hsub : List.Sublist ((List.range l.length).filter fun k => !(listed.setIfInBounds i true).getD k false) (((List.range l.length).filter fun k => !listed.getD k false).erase i) := by
    have hnd : ((List.range l.length).filter fun k => !listed.getD k false).Nodup := List.Pairwise.filter _ List.nodup_range
    rw [hnd.erase_eq_filter, List.filter_filter]
    refine sub_of_eq ?_
    apply List.filter_congr
    intro k hk
    simp only [Array.getD_eq_getD_getElem?]
    by_cases hik : i = k
    · subst hik; simp [show i < listed.size by omega]
    · rw [Array.getElem?_setIfInBounds_ne hik]; simp [Ne.symm hik]
  have hmem : i ∈ (List.range l.length).filter fun k => !listed.getD k false := by simp only [List.mem_filter, List.mem_range]; exact ⟨hil, by rw [hnl]; rfl⟩
  have h5 := hsub.length_le
  rw [List.length_erase_of_mem hmem] at h5
  have := List.length_pos_of_mem hmem
  omega
theorem listed_set {listed : Array Bool} {i j : Nat} (h : (listed.setIfInBounds i true).getD j false = true) (hne : j ≠ i) : listed.getD j false = true := by
  simp only [Array.getD_eq_getD_getElem?] at h ⊢
  rwa [Array.getElem?_setIfInBounds_ne (fun e => hne e.symm)] at h
theorem listed_keep {listed : Array Bool} {i j : Nat} (h : listed.getD j false = true) : (listed.setIfInBounds i true).getD j false = true := by
  simp only [Array.getD_eq_getD_getElem?] at h ⊢
  by_cases hij : i = j
  · subst hij
    by_cases hlt : i < listed.size
    · simp [hlt]
    · simp [Array.getElem?_eq_none (Nat.le_of_not_lt hlt)] at h
  · rwa [Array.getElem?_setIfInBounds_ne hij]
structure DInv (P : Program) (ro : Option Nat) (n : Nat) (w0 : World) (l : List Oper) (g : Nat) (M : List Nat) (ds : List Nat) (S : SHeap) (r0 : Env) (V : Nat) (r : Env) (m : Mem) (val : Nat → Value) (listed : Array Bool) (tmps : Array Value) : Prop where
  env : ∀ t u, r.get t = some u → (∃ j o, j < g ∧ V.testBit j = true ∧ l[j]? = some o ∧ o.dst = some t ∧ val j = u) ∨ (r0.get t = some u ∧ ∀ j o, j < g → V.testBit j = true → l[j]? = some o → o.dst ≠ some t)
  vclosed : ∀ j o, j < g → l[j]? = some o → V.testBit j = true → readyV V o
  rcd : ∀ i o, i < g → l[i]? = some o → V.testBit i = true → listed.getD i false = false → ∃ d ri, o.dst = some d ∧ (∀ c, o.op ≠ .defer c) ∧
    (∀ t ∈ o.looksAt l.toArray, ∀ u, ri.get t = some u → (∃ j oj, j < g ∧ l[j]? = some oj ∧ oj.dst = some t ∧ val j = u ∧ ∃ e ∈ o.after, bind1 e = true ∧ e.on = j) ∨ (r0.get t = some u ∧ ∀ j oj, j < g → l[j]? = some oj → oj.dst = some t → (M.getD j 0).testBit i = true)) ∧
    ∀ m' F, m.le m' → WL P ro n w0 l.toArray (Q1 w0 d (val i) ds m' (S ++ F)) [o] (Env.sel (o.looksAt l.toArray) ri) ds m' (S ++ F)
  size : listed.size = l.length
  closed : Closed l listed
  sub : ∀ j, j < g → listed.getD j false = true → V.testBit j = true
  tail : ∀ j, g ≤ j → j < l.length → listed.getD j false = false
  tsize : tmps.size = n
  done : ∀ j o d, j < g → listed.getD j false = true → l[j]? = some o → o.dst = some d → tmps[d]? = some (val j)
  old : ∀ t u, r0.get t = some u → (∀ j o, j < g → listed.getD j false = true → l[j]? = some o → o.dst ≠ some t) → tmps[t]? = some u
section sound
variable {l : List Oper} {g : Nat} {M : List Nat} {S U : SHeap} {r0 : Env} {V : Nat} {val : Nat → Value} {listed : Array Bool} {tmps : Array Value} {w : World}
theorem DInv.vmask (ok : DrawOk l g M) (h : DInv P ro n w0 l g M ds S r0 V r m val listed tmps) {j i : Nat} {o : Oper} (hj : j < g) (ho : l[j]? = some o) (hr : readyV V o) (hb : (M.getD j 0).testBit i = true) : V.testBit i = true :=
  mask_in ok ok.le (p := fun j => V.testBit j = true) (fun j o hj ho hp => h.vclosed j o hj ho hp) j o hj ho hr i hb
/-- what is drawn and already calm -/
theorem DInv.deferred (ok : DrawOk l g M) (h : DInv P ro n w0 l g M ds S r0 V r m val listed tmps) (hsat : Sat w0 m (S ++ U) w) {i : Nat} {o : Oper} (hi : i < g) (ho : l[i]? = some o) (hV : V.testBit i = true) (hnl : listed.getD i false = false)
    (hw : ∀ e ∈ o.after, bind1 e = true → listed.getD e.on false = true) {K : Act → World → Prop}
    (hK : ∀ tmps' w', DInv P ro n w0 l g M ds S r0 V r m val (listed.setIfInBounds i true) tmps' → Sat w0 m (S ++ U) w' → K ⟨tmps', marks ds⟩ w') : wpOpIn (FW ro) 0 P l.toArray Q i K ⟨tmps, marks ds⟩ w := by
  obtain ⟨d, ri, hd, hnd, hri, hwl⟩ := h.rcd i o hi ho hV hnl
  refine wpOp_of_q1 (m := m) (H := S ++ U) (w0 := w0) (v := val i) (by simpa using ho) hd hnd ?_ ?_
  · refine hwl m U (Mem.le.refl _) tmps w ⟨h.tsize, fun t u ht => ?_⟩ hsat
    obtain ⟨hlook, hget⟩ := Env.sel_get ht
    rcases hri t hlook u hget with ⟨j, oj, hj, hoj, hdj, hv, e, he, hb, hon⟩ | ⟨h0, hno⟩
    · have := hw e he hb
      rw [hon] at this
      rw [h.done j oj t hj this hoj hdj, hv]
    · refine h.old t u h0 (fun j oj hj hjl hoj hdj => ?_)
      have := mask_listed ok h.closed j oj hoj (h.closed j oj hoj hjl) i (hno j oj hj hoj hdj)
      rw [hnl] at this; cases this
  · intro w' hsat' hdlt
    have hil := (List.getElem?_eq_some_iff.1 ho).1
    refine hK _ w' ⟨h.env, h.vclosed, ?_, by simp [h.size], closed_set h.closed ho hw, ?_, ?_, by simp [h.tsize], ?_, ?_⟩ hsat'
    · intro i' o' hi' ho' hV' hnl'
      refine h.rcd i' o' hi' ho' hV' ?_
      cases hq : listed.getD i' false with
      | false => rfl
      | true => rw [listed_keep hq] at hnl'; cases hnl'
    · intro j hj hjl
      by_cases e : j = i
      · subst e; exact hV
      · exact h.sub j hj (listed_set hjl e)
    · intro j hj hjl
      cases hq : (listed.setIfInBounds i true).getD j false with
      | false => rfl
      | true => have := listed_set hq (by omega); rw [h.tail j hj hjl] at this; cases this
    · intro j oj dj hj hjl hoj hdj
      by_cases e : j = i
      · subst e
        rw [ho] at hoj; cases hoj
        rw [hd] at hdj; cases hdj
        exact Array.getElem?_setIfInBounds_self_of_lt hdlt
      · have hne : d ≠ dj := fun e2 => by
          subst e2
          exact e (ok.dst j oj hj hoj _ hdj i o hi ho hd)
        rw [Array.getElem?_setIfInBounds_ne hne]
        exact h.done j oj dj hj (listed_set hjl e) hoj hdj
    · intro t u ht hno
      have hil' : (listed.setIfInBounds i true).getD i false = true := by simp [show i < listed.size by rw [h.size]; exact hil]
      have hne : d ≠ t := fun e => by subst e; exact hno i o hi hil' ho hd
      rw [Array.getElem?_setIfInBounds_ne hne]
      exact h.old t u ht (fun j oj hj hjl hoj => hno j oj hj (listed_keep hjl) hoj)
/-- one more is calm -/
theorem DInv.calm (ok : DrawOk l g M) (h : DInv P ro n w0 l g M ds S r0 V r m val listed tmps) {i d : Nat} {o : Oper} {v : Value} (hi : i < g) (ho : l[i]? = some o) (hV : V.testBit i = false) (hr : readyV V o) (hd : o.dst = some d) (hnd : ∀ c, o.op ≠ .defer c)
    (hwl : ∀ m' F, m.le m' → WL P ro n w0 l.toArray (Q1 w0 d v ds m' (S ++ F)) [o] (Env.sel (o.looksAt l.toArray) r) ds m' (S ++ F)) :
    DInv P ro n w0 l g M ds S r0 (V ||| 1 <<< i) ((d, v) :: r) m (fun j => if j = i then v else val j) listed tmps := by
  have hval : ∀ j, V.testBit j = true → (if j = i then v else val j) = val j := fun j hj => if_neg (fun e => by subst e; rw [hV] at hj; cases hj)
  refine ⟨?_, ?_, ?_, h.size, h.closed, fun j hj hjl => bit_keep (h.sub j hj hjl), h.tail, h.tsize, ?_, h.old⟩
  · intro t u ht
    simp only [Env.get] at ht
    cases hq : Nat.beq d t with
    | true =>
      have e := Nat.eq_of_beq_eq_true hq
      subst e
      simp [hq] at ht
      subst ht
      exact .inl ⟨i, o, hi, bit_self V i, ho, hd, if_pos rfl⟩
    | false =>
      simp [hq] at ht
      rcases h.env t u ht with ⟨j, oj, hj, hjV, hoj, hdj, hv⟩ | ⟨h0, hno⟩
      · exact .inl ⟨j, oj, hj, bit_keep hjV, hoj, hdj, by rw [hval j hjV]; exact hv⟩
      · refine .inr ⟨h0, fun j oj hj hjV hoj hdj => ?_⟩
        by_cases e : j = i
        · subst e
          rw [ho] at hoj; cases hoj
          rw [hd] at hdj; cases hdj
          exact Nat.ne_of_beq_eq_false hq rfl
        · exact hno j oj hj (bit_old hjV e) hoj hdj
  · intro j oj hj hoj hjV e he hb
    by_cases e2 : j = i
    · subst e2
      rw [ho] at hoj; cases hoj
      exact bit_keep (hr e he hb)
    · exact bit_keep (h.vclosed j oj hj hoj (bit_old hjV e2) e he hb)
  · intro i' o' hi' ho' hV' hnl'
    by_cases e : i' = i
    · subst e
      rw [ho] at ho'; cases ho'
      refine ⟨d, r, hd, hnd, ?_, ?_⟩
      · intro t hlook u hget
        rcases h.env t u hget with ⟨j, oj, hj, hjV, hoj, hdj, hv⟩ | ⟨h0, hno⟩
        · rcases ok.reads i' o hi ho t hlook j oj hj hoj hdj with ⟨_, e, he, hb, hon⟩ | ⟨_, hbit⟩
          · exact .inl ⟨j, oj, hj, hoj, hdj, by rw [hval j hjV]; exact hv, e, he, hb, hon⟩
          · have := h.vmask ok hj hoj (h.vclosed j oj hj hoj hjV) hbit
            rw [hV] at this; cases this
        · refine .inr ⟨h0, fun j oj hj hoj hdj => ?_⟩
          rcases ok.reads i' o hi ho t hlook j oj hj hoj hdj with ⟨_, e, he, hb, hon⟩ | ⟨_, hbit⟩
          · have := hr e he hb
            rw [hon] at this
            exact absurd hdj (hno j oj hj this hoj)
          · exact hbit
      · simp only [if_true]
        exact hwl
    · have hVo := bit_old hV' e
      obtain ⟨d', ri, k1, k2, k3, k4⟩ := h.rcd i' o' hi' ho' hVo hnl'
      refine ⟨d', ri, k1, k2, ?_, by rw [hval i' hVo]; exact k4⟩
      intro t hlook u hget
      rcases k3 t hlook u hget with ⟨j, oj, hj, hoj, hdj, hv, e', he', hb', hon'⟩ | h2
      · have hjV : V.testBit j = true := by have := h.vclosed i' o' hi' ho' hVo e' he' hb'; rwa [hon'] at this
        exact .inl ⟨j, oj, hj, hoj, hdj, by rw [hval j hjV]; exact hv, e', he', hb', hon'⟩
      · exact .inr h2
  · intro j oj dj hj hjl hoj hdj
    rw [hval j (h.sub j hj hjl)]
    exact h.done j oj dj hj hjl hoj hdj
/-- one acts -/
theorem DInv.act (ok : DrawOk l g M) (h : DInv P ro n w0 l g M ds S r0 V r m val listed tmps) {i d : Nat} {o : Oper} {v : Value} {m' : Mem} {B : SHeap} (hi : i < g) (ho : l[i]? = some o) (hV : V.testBit i = false)
    (hw : ∀ e ∈ o.after, bind1 e = true → listed.getD e.on false = true) (hd : o.dst = some d) (hm : m.le m') (hdlt : d < tmps.size) :
    DInv P ro n w0 l g M ds (S ++ B) r0 (V ||| 1 <<< i) ((d, v) :: r) m' (fun j => if j = i then v else val j) (listed.setIfInBounds i true) (tmps.setIfInBounds d v) := by
  have hval : ∀ j, V.testBit j = true → (if j = i then v else val j) = val j := fun j hj => if_neg (fun e => by subst e; rw [hV] at hj; cases hj)
  have hil := (List.getElem?_eq_some_iff.1 ho).1
  have hr : readyV V o := fun e he hb => h.sub e.on (by have := ok.down i o ho e he hb; omega) (hw e he hb)
  refine ⟨?_, ?_, ?_, by simp [h.size], closed_set h.closed ho hw, ?_, ?_, by simp [h.tsize], ?_, ?_⟩
  · intro t u ht
    simp only [Env.get] at ht
    cases hq : Nat.beq d t with
    | true =>
      have e := Nat.eq_of_beq_eq_true hq
      subst e
      simp [hq] at ht
      subst ht
      exact .inl ⟨i, o, hi, bit_self V i, ho, hd, if_pos rfl⟩
    | false =>
      simp [hq] at ht
      rcases h.env t u ht with ⟨j, oj, hj, hjV, hoj, hdj, hv⟩ | ⟨h0, hno⟩
      · exact .inl ⟨j, oj, hj, bit_keep hjV, hoj, hdj, by rw [hval j hjV]; exact hv⟩
      · refine .inr ⟨h0, fun j oj hj hjV hoj hdj => ?_⟩
        by_cases e : j = i
        · subst e
          rw [ho] at hoj; cases hoj
          rw [hd] at hdj; cases hdj
          exact Nat.ne_of_beq_eq_false hq rfl
        · exact hno j oj hj (bit_old hjV e) hoj hdj
  · intro j oj hj hoj hjV e he hb
    by_cases e2 : j = i
    · subst e2
      rw [ho] at hoj; cases hoj
      exact bit_keep (hr e he hb)
    · exact bit_keep (h.vclosed j oj hj hoj (bit_old hjV e2) e he hb)
  · intro i' o' hi' ho' hV' hnl'
    have e : i' ≠ i := fun e => by
      subst e
      have : (listed.setIfInBounds i' true).getD i' false = true := by simp [show i' < listed.size by rw [h.size]; exact hil]
      rw [this] at hnl'; cases hnl'
    have hVo := bit_old hV' e
    have hnl : listed.getD i' false = false := by
      cases hq : listed.getD i' false with
      | false => rfl
      | true => rw [listed_keep hq] at hnl'; cases hnl'
    obtain ⟨d', ri, k1, k2, k3, k4⟩ := h.rcd i' o' hi' ho' hVo hnl
    refine ⟨d', ri, k1, k2, ?_, by rw [hval i' hVo]; exact fun m'' F hle => by rw [List.append_assoc]; exact k4 m'' (B ++ F) (hm.trans hle)⟩
    intro t hlook u hget
    rcases k3 t hlook u hget with ⟨j, oj, hj, hoj, hdj, hv, e', he', hb', hon'⟩ | h2
    · have hjV : V.testBit j = true := by have := h.vclosed i' o' hi' ho' hVo e' he' hb'; rwa [hon'] at this
      exact .inl ⟨j, oj, hj, hoj, hdj, by rw [hval j hjV]; exact hv, e', he', hb', hon'⟩
    · exact .inr h2
  · intro j hj hjl
    by_cases e : j = i
    · subst e; exact bit_self V j
    · exact bit_keep (h.sub j hj (listed_set hjl e))
  · intro j hj hjl
    cases hq : (listed.setIfInBounds i true).getD j false with
    | false => rfl
    | true => have := listed_set hq (by omega); rw [h.tail j hj hjl] at this; cases this
  · intro j oj dj hj hjl hoj hdj
    by_cases e : j = i
    · subst e
      rw [ho] at hoj; cases hoj
      rw [hd] at hdj; cases hdj
      simp only [if_true]
      exact Array.getElem?_setIfInBounds_self_of_lt hdlt
    · have hjl' := listed_set hjl e
      have hne : d ≠ dj := fun e2 => by
        subst e2
        exact e (ok.dst j oj hj hoj _ hdj i o hi ho hd)
      rw [Array.getElem?_setIfInBounds_ne hne, hval j (h.sub j hj hjl')]
      exact h.done j oj dj hj hjl' hoj hdj
  · intro t u ht hno
    have hil' : (listed.setIfInBounds i true).getD i false = true := by simp [show i < listed.size by rw [h.size]; exact hil]
    have hne : d ≠ t := fun e => by subst e; exact hno i o hi hil' ho hd
    rw [Array.getElem?_setIfInBounds_ne hne]
    exact h.old t u ht (fun j oj hj hjl hoj => hno j oj hj (listed_keep hjl) hoj)
/-- one acts that has no answer -/
theorem DInv.actN (ok : DrawOk l g M) (h : DInv P ro n w0 l g M ds S r0 V r m val listed tmps) {i : Nat} {o : Oper} {m' : Mem} {B : SHeap} (hi : i < g) (ho : l[i]? = some o) (hV : V.testBit i = false)
    (hw : ∀ e ∈ o.after, bind1 e = true → listed.getD e.on false = true) (hd : o.dst = none) (hm : m.le m') :
    DInv P ro n w0 l g M ds (S ++ B) r0 (V ||| 1 <<< i) r m' val (listed.setIfInBounds i true) tmps := by
  have hil := (List.getElem?_eq_some_iff.1 ho).1
  have hr : readyV V o := fun e he hb => h.sub e.on (by have := ok.down i o ho e he hb; omega) (hw e he hb)
  refine ⟨?_, ?_, ?_, by simp [h.size], closed_set h.closed ho hw, ?_, ?_, h.tsize, ?_, ?_⟩
  · intro t u ht
    rcases h.env t u ht with ⟨j, oj, hj, hjV, hoj, hdj, hv⟩ | ⟨h0, hno⟩
    · exact .inl ⟨j, oj, hj, bit_keep hjV, hoj, hdj, hv⟩
    · refine .inr ⟨h0, fun j oj hj hjV hoj hdj => ?_⟩
      by_cases e : j = i
      · subst e
        rw [ho] at hoj; cases hoj
        rw [hd] at hdj; cases hdj
      · exact hno j oj hj (bit_old hjV e) hoj hdj
  · intro j oj hj hoj hjV e he hb
    by_cases e2 : j = i
    · subst e2
      rw [ho] at hoj; cases hoj
      exact bit_keep (hr e he hb)
    · exact bit_keep (h.vclosed j oj hj hoj (bit_old hjV e2) e he hb)
  · intro i' o' hi' ho' hV' hnl'
    have e : i' ≠ i := fun e => by
      subst e
      have : (listed.setIfInBounds i' true).getD i' false = true := by simp [show i' < listed.size by rw [h.size]; exact hil]
      rw [this] at hnl'; cases hnl'
    have hVo := bit_old hV' e
    have hnl : listed.getD i' false = false := by
      cases hq : listed.getD i' false with
      | false => rfl
      | true => rw [listed_keep hq] at hnl'; cases hnl'
    obtain ⟨d', ri, k1, k2, k3, k4⟩ := h.rcd i' o' hi' ho' hVo hnl
    exact ⟨d', ri, k1, k2, k3, fun m'' F hle => by rw [List.append_assoc]; exact k4 m'' (B ++ F) (hm.trans hle)⟩
  · intro j hj hjl
    by_cases e : j = i
    · subst e; exact bit_self V j
    · exact bit_keep (h.sub j hj (listed_set hjl e))
  · intro j hj hjl
    cases hq : (listed.setIfInBounds i true).getD j false with
    | false => rfl
    | true => have := listed_set hq (by omega); rw [h.tail j hj hjl] at this; cases this
  · intro j oj dj hj hjl hoj hdj
    by_cases e : j = i
    · subst e
      rw [ho] at hoj; cases hoj
      rw [hd] at hdj; cases hdj
    · exact h.done j oj dj hj (listed_set hjl e) hoj hdj
  · intro t u ht hno
    exact h.old t u ht (fun j oj hj hjl hoj => hno j oj hj (listed_keep hjl) hoj)
theorem we_any (ok : DrawOk l g M) {K : Env → Mem → SHeap → SHeap → Prop} (hK : ∀ r m S U, K r m S U → WL P ro n w0 l.toArray Q (l.drop g) r ds m (S ++ U)) :
    ∀ (fuel k : Nat) (V : Nat) (r : Env) (m : Mem) (S U : SHeap) (val : Nat → Value) (listed : Array Bool) (tmps : Array Value) (w : World),
      WE P ro n w0 l g ds K k V r m S U → DInv P ro n w0 l g M ds S r0 V r m val listed tmps → Sat w0 m (S ++ U) w →
      ((List.range l.length).filter fun i => !listed.getD i false).length ≤ fuel → wpAnyIn (FW ro) 0 P .any l.toArray Q fuel listed ⟨tmps, marks ds⟩ w := by
  -- where all is done
  have final : ∀ (fuel : Nat) (V : Nat) (r : Env) (m : Mem) (S U : SHeap) (val : Nat → Value) (listed : Array Bool) (tmps : Array Value) (w : World), K r m S U → DInv P ro n w0 l g M ds S r0 V r m val listed tmps → Sat w0 m (S ++ U) w →
      (∀ i, i < g → listed.getD i false = true) → (∀ i, i < g → V.testBit i = true) → ((List.range l.length).filter fun i => !listed.getD i false).length ≤ fuel → wpAnyIn (FW ro) 0 P .any l.toArray Q fuel listed ⟨tmps, marks ds⟩ w := by
    intro fuel V r m S U val listed tmps w hk hI hs hall hV hf
    refine tail_any ok fuel g listed _ _ hI.size (Nat.le_refl _) ok.le (fun i hi => ⟨fun h => ?_, hall i⟩) ?_ ?_
    · rcases Nat.lt_or_ge i g with hlt | hge
      · exact hlt
      · rw [hI.tail i hge hi] at h; cases h
    · have : (List.range l.length).filter (fun i => !listed.getD i false) = (List.range l.length).filter (fun i => decide (g ≤ i)) := by
        apply List.filter_congr
        intro i hi
        have hi' := List.mem_range.1 hi
        rcases Nat.lt_or_ge i g with hlt | hge
        · rw [hall i hlt]; simp; omega
        · rw [hI.tail i hge hi']; simp [hge]
      rw [this] at hf
      have hcnt : l.length - g ≤ ((List.range l.length).filter (fun i => decide (g ≤ i))).length := by
        have hsub : List.Sublist (List.range' g (l.length - g)) ((List.range l.length).filter (fun i => decide (g ≤ i))) := by
          obtain ⟨k, hk⟩ : ∃ k, l.length = g + k := ⟨l.length - g, by have := ok.le; omega⟩
          have e : List.range l.length = List.range' 0 g ++ List.range' g (l.length - g) := by
            rw [List.range_eq_range', hk, Nat.add_sub_cancel_left]
            have := @List.range'_append 0 g k 1
            simpa using this.symm
          rw [e, List.filter_append]
          refine List.Sublist.trans ?_ (List.sublist_append_right _ _)
          rw [List.filter_eq_self.2 (fun i hi => by have := List.mem_range'_1.1 hi; simp; omega)]
          exact List.Sublist.refl _
        have := hsub.length_le
        simpa using this
      omega
    · refine hK r m S U hk tmps w ⟨hI.tsize, fun t u ht => ?_⟩ hs
      rcases hI.env t u ht with ⟨j, o, hj, _, hoj, hdj, hv⟩ | ⟨h0, hno⟩
      · rw [hI.done j o t hj (hall j hj) hoj hdj, hv]
      · exact hI.old t u h0 (fun j o hj hjl hoj => hno j o hj (hV j hj) hoj)
  intro fuel
  induction fuel with
  | zero =>
    intro k
    induction k with
    | zero => intro V r m S U val listed tmps w h; exact h.elim
    | succ k ihk =>
      intro V r m S U val listed tmps w h hI hs hf
      have hall : ∀ i, i < l.length → listed.getD i false = true := by
        intro i hi
        cases hq : listed.getD i false with
        | true => rfl
        | false =>
          exfalso
          have : i ∈ (List.range l.length).filter fun i => !listed.getD i false := by simp only [List.mem_filter, List.mem_range]; exact ⟨hi, by rw [hq]; rfl⟩
          have h0 := List.eq_nil_of_length_eq_zero (Nat.le_zero.1 hf)
          rw [h0] at this; cases this
      have hV : ∀ i, i < g → V.testBit i = true := fun i hi => hI.sub i hi (hall i (by have := ok.le; omega))
      rcases h with ⟨_, hk⟩ | ⟨i, o, d, v, hi, _, hVi, _⟩ | ⟨⟨i, hi, hVi⟩, _⟩
      · exact final 0 V r m S U val listed tmps w hk hI hs (fun i hi => hall i (by have := ok.le; omega)) hV hf
      · rw [hV i hi] at hVi; cases hVi
      · rw [hV i hi] at hVi; cases hVi
  | succ fuel ihf =>
    intro k
    induction k with
    | zero => intro V r m S U val listed tmps w h; exact h.elim
    | succ k ihk =>
      intro V r m S U val listed tmps w h hI hs hf
      by_cases hcalm : ∃ i o d v, i < g ∧ l[i]? = some o ∧ V.testBit i = false ∧ readyV V o ∧ o.dst = some d ∧ (∀ c, o.op ≠ .defer c) ∧
          (∀ m' F, m.le m' → WL P ro n w0 l.toArray (Q1 w0 d v ds m' (S ++ F)) [o] (Env.sel (o.looksAt l.toArray) r) ds m' (S ++ F)) ∧ WE P ro n w0 l g ds K k (V ||| 1 <<< i) ((d, v) :: r) m S U
      · obtain ⟨i, o, d, v, hi, ho, hV, hr, hd, hnd, hwl, hwe⟩ := hcalm
        exact ihk _ _ m S U _ listed tmps w hwe (hI.calm ok hi ho hV hr hd hnd hwl) hs hf
      -- an operation that is calm already, or one that acts
      have hcount : ∀ i, i < l.length → listed.getD i false = false → ((List.range l.length).filter fun k => !(listed.setIfInBounds i true).getD k false).length ≤ fuel := fun i hi hnl => by
        have := count_set hI.size hi hnl; omega
      by_cases hfin : ∀ i, i < g → listed.getD i false = true
      · have hV : ∀ i, i < g → V.testBit i = true := fun i hi => hI.sub i hi (hfin i hi)
        rcases h with ⟨_, hk⟩ | h | ⟨⟨i, hi, hVi⟩, _⟩
        · exact final _ V r m S U val listed tmps w hk hI hs hfin hV hf
        · exact absurd h hcalm
        · rw [hV i hi] at hVi; cases hVi
      refine ⟨fun hr => absurd (fun i hi => nothing_ready ok hI.size hr i (by have := ok.le; omega)) hfin, fun i hir => ?_⟩
      obtain ⟨h1, o, h2, h3⟩ := ready_of hir
      have hil := (List.getElem?_eq_some_iff.1 h2).1
      have hig : i < g := by
        rcases Nat.lt_or_ge i g with hlt | hge
        · exact hlt
        · exfalso
          refine hfin (fun k hk => ?_)
          exact mask_listed ok hI.closed i o h2 h3 k (ok.all i hge hil k (by omega))
      have hnl : listed.getD i false = false := by
        have hsz := hI.size
        simp only [Array.getD_eq_getD_getElem?] at h1 ⊢
        rw [Array.getElem?_eq_getElem (by omega)] at h1 ⊢
        exact h1
      cases hVi : V.testBit i with
      | true =>
        refine hI.deferred ok hs hig h2 hVi hnl h3 (fun tmps' w' hI' hs' => ?_)
        exact ihf (k + 1) V r m S U val _ tmps' w' h hI' hs' (hcount i hil hnl)
      | false =>
        rcases h with ⟨hV, _⟩ | h | ⟨_, h⟩
        · rw [hV i hig] at hVi; cases hVi
        · exact absurd h hcalm
        · have hrV : readyV V o := fun e he hb => hI.sub e.on (by have := ok.down i o h2 e he hb; omega) (h3 e he hb)
          have henv : ∀ t u, (Env.sel (o.looksAt l.toArray) r).get t = some u → tmps[t]? = some u := by
            intro t u ht
            obtain ⟨hlook, hget⟩ := Env.sel_get ht
            rcases hI.env t u hget with ⟨j, oj, hj, hjV, hoj, hdj, hv⟩ | ⟨h0, hno⟩
            · rcases ok.reads i o hig h2 t hlook j oj hj hoj hdj with ⟨_, e, he, hb, hon⟩ | ⟨_, hbit⟩
              · have := h3 e he hb
                rw [hon] at this
                rw [hI.done j oj t hj this hoj hdj, hv]
              · have := hI.vmask ok hj hoj (hI.vclosed j oj hj hoj hjV) hbit
                rw [hVi] at this; cases this
            · exact hI.old t u h0 (fun j oj hj hjl hoj => hno j oj hj (hI.sub j hj hjl) hoj)
          rcases h i o hig h2 hVi hrV with ⟨d, hd, hnd, hwl⟩ | ⟨hd, hnd, hwl⟩
          · refine wpOp_of_post (by simpa using h2) hd hnd ?_ ?_ (hwl tmps w ⟨hI.tsize, henv⟩ hs) ?_
            · rintro a w ⟨v, m', B, U', _, hdf, _⟩; exact hdf
            · intro e a w hq
              cases e <;> first | rfl | exact hq.elim
            · rintro v0 w' ⟨v, m', B, U', hv, _, hm, hs', hwe⟩
              have hdlt : d < tmps.size := by
                rcases Nat.lt_or_ge d tmps.size with hlt | hge
                · exact hlt
                · simp only at hv
                  rw [Array.getElem?_eq_none (by simpa using hge)] at hv; cases hv
              have hv0 : v0 = v := by
                simp only at hv
                rw [Array.getElem?_setIfInBounds_self_of_lt hdlt] at hv
                exact Option.some.inj hv
              subst hv0
              exact ihf k _ _ m' (S ++ B) U' _ _ _ w' hwe (hI.act ok hig h2 hVi h3 hd hm hdlt) hs' (hcount i hil hnl)
          · refine wpOp_of_postN (by simpa using h2) hd hnd ?_ ?_ (hwl tmps w ⟨hI.tsize, henv⟩ hs) ?_
            · rintro a w ⟨m', B, U', hdf, _⟩; exact hdf
            · intro e a w hq
              cases e <;> first | rfl | exact hq.elim
            · rintro w' ⟨m', B, U', _, hm, hs', hwe⟩
              exact ihf k _ _ m' (S ++ B) U' _ _ _ w' hwe (hI.actN ok hig h2 hVi h3 hd hm) hs' (hcount i hil hnl)
end sound
def readyB (V : Nat) (o : Oper) : Bool := o.after.all fun e => !bind1 e || V.testBit e.on
theorem readyB_iff {V : Nat} {o : Oper} : readyB V o = true ↔ readyV V o := by
  unfold readyB readyV
  rw [Array.all_eq_true']
  constructor
  · intro h e he hb
    have := h e he
    simpa [hb] using this
  · intro h e he
    cases hb : bind1 e with
    | false => simp
    | true => simp [h e he hb]
/-- no operation but these may come next -/
def onlyB (l : List Oper) (g V : Nat) (js : List Nat) : Bool :=
  ((List.range g).any fun i => !V.testBit i) && ((List.range g).all fun i => V.testBit i || js.contains i || match l[i]? with | some o => !readyB V o | none => true)
theorem onlyB_ok {l : List Oper} {g V : Nat} {js : List Nat} (h : onlyB l g V js = true) : (∃ i, i < g ∧ V.testBit i = false) ∧ ∀ i o, i < g → l[i]? = some o → V.testBit i = false → readyV V o → i ∈ js := by
  unfold onlyB at h
  rw [Bool.and_eq_true] at h
  constructor
  · obtain ⟨i, hi, hV⟩ := List.any_eq_true.1 h.1
    exact ⟨i, List.mem_range.1 hi, by simpa using hV⟩
  · intro i o hi ho hV hr
    have := List.all_eq_true.1 h.2 i (List.mem_range.2 hi)
    have hrb := readyB_iff.2 hr
    rw [ho, hV] at this
    simpa [hrb] using this
section build
variable {l : List Oper} {g : Nat} {S U : SHeap} {K : Env → Mem → SHeap → SHeap → Prop} {k V : Nat}
theorem WE.done (h : ((List.range g).all fun i => V.testBit i) = true) (hK : K r m S U) : WE P ro n w0 l g ds K (k + 1) V r m S U :=
  .inl ⟨fun i hi => List.all_eq_true.1 h i (List.mem_range.2 hi), hK⟩
theorem WE.calm (i : Nat) {o : Oper} {d : Nat} {v : Value} (hV : V.testBit i = false) (hi : Nat.blt i g = true) (ho : l[i]? = some o) (hr : readyB V o = true) (hd : o.dst = some d) (hnd : ∀ c, o.op ≠ .defer c)
    (hwl : ∀ m' F, m.le m' → WL P ro n w0 l.toArray (Q1 w0 d v ds m' (S ++ F)) [o] (Env.sel (o.looksAt l.toArray) r) ds m' (S ++ F))
    (h : WE P ro n w0 l g ds K k (V ||| 1 <<< i) ((d, v) :: r) m S U) : WE P ro n w0 l g ds K (k + 1) V r m S U :=
  .inr (.inl ⟨i, o, d, v, by simpa [Nat.blt_eq] using hi, ho, hV, readyB_iff.1 hr, hd, hnd, hwl, h⟩)
/-- what one that acts owes -/
def Acts (P : Program) (ro : Option Nat) (n : Nat) (w0 : World) (l : List Oper) (g : Nat) (ds : List Nat) (K : Env → Mem → SHeap → SHeap → Prop) (k V : Nat) (r : Env) (m : Mem) (S U : SHeap) (i : Nat) : Prop :=
  ∃ o d, l[i]? = some o ∧ o.dst = some d ∧ (∀ c, o.op ≠ .defer c) ∧
    WL P ro n w0 l.toArray (QE w0 d ds S m fun v m' S' U' => WE P ro n w0 l g ds K k (V ||| 1 <<< i) ((d, v) :: r) m' S' U') [o] (Env.sel (o.looksAt l.toArray) r) ds m (S ++ U)
theorem WE.acts (js : List Nat) (h : onlyB l g V js = true) (hj : ∀ i ∈ js, Acts P ro n w0 l g ds K k V r m S U i) : WE P ro n w0 l g ds K (k + 1) V r m S U := by
  obtain ⟨h1, h2⟩ := onlyB_ok h
  refine .inr (.inr ⟨h1, fun i o hi ho hV hr => ?_⟩)
  obtain ⟨o', d, ho', hd, hnd, hwl⟩ := hj i (h2 i o hi ho hV hr)
  rw [ho] at ho'; cases ho'
  exact .inl ⟨d, hd, hnd, hwl⟩
theorem WE.act1 (i : Nat) {o : Oper} {d : Nat} (h : onlyB l g V [i] = true) (ho : l[i]? = some o) (hd : o.dst = some d) (hnd : ∀ c, o.op ≠ .defer c)
    (hwl : WL P ro n w0 l.toArray (QE w0 d ds S m fun v m' S' U' => WE P ro n w0 l g ds K k (V ||| 1 <<< i) ((d, v) :: r) m' S' U') [o] (Env.sel (o.looksAt l.toArray) r) ds m (S ++ U)) : WE P ro n w0 l g ds K (k + 1) V r m S U :=
  .acts [i] h (fun j hj => by rw [List.mem_singleton] at hj; subst hj; exact ⟨o, d, ho, hd, hnd, hwl⟩)
end build
/-- a region that draws its order, where some operations act -/
theorem WC.drawE {id : Nat} {l : List Oper} (g : Nat) (S U : SHeap) (hm : P.follows .mixedOrders = true) (hc : drawC l g = true) (hS : ∀ w, Sat w0 m H w → Sat w0 m (S ++ U) w)
    (h : WE P ro n w0 l g ds (fun r' m' S' U' => WL P ro n w0 l.toArray Q (l.drop g) r' ds m' (S' ++ U')) 200 0 r m S U) : WC P ro n w0 (.region id l.toArray true) Q r ds m H := by
  intro tmps w ho hs
  have ok := drawC_ok hc
  refine wpIn_region_draw fun t => ?_
  simp only [Region.schedule, hm, Bool.true_or, if_true]
  refine wpAnyIn_sound _ _ _ _ _ ?_
  have hz : ∀ k, (Array.replicate l.length false).getD k false = false := by
    intro k
    simp only [Array.getD_eq_getD_getElem?]
    by_cases hk : k < l.length
    · simp [hk]
    · rw [Array.getElem?_eq_none (by simpa using hk)]; rfl
  have hsz : l.toArray.size = l.length := by simp
  rw [hsz]
  refine we_any (r0 := r) ok (fun _ _ _ _ h => h) l.length 200 0 r m S U (fun _ => undef) _ tmps _ h ?_ (hS _ hs.drew) ?_
  · refine ⟨fun t u ht => .inr ⟨ht, fun j o _ hj => ?_⟩, fun j o _ _ hj => ?_, fun i o _ _ hj => ?_, by simp, fun j o _ hj => ?_, fun j _ hj => ?_, fun j _ _ => hz j, ho.size, fun j o d _ hj => ?_, fun t u ht _ => ho.at_ t u ht⟩
    · simp at hj
    · simp at hj
    · simp at hj
    · rw [hz] at hj; cases hj
    · rw [hz] at hj; cases hj
    · rw [hz] at hj; cases hj
  · exact Nat.le_trans (List.length_filter_le _ _) (by simp)
end
end Go.Eng

/-
  A walk's engine: ways out of a block that meet again. No condition.
-/
set_option linter.all false
namespace Go.Eng
open Go Go.RowKit
section
variable {P : Program} {ro : Option Nat} {n : Nat} {w0 : World} {Q : Exit → Act → World → Prop} {r : Env} {ds : List Nat} {m : Mem} {H : SHeap}
def QJoinX (n : Nat) (w0 : World) (id : Nat) (I : Env → List Nat → Mem → SHeap → Prop) (Q : Exit → Act → World → Prop) : Exit → Act → World → Prop
  | .exit j, a, w => if j = id then ∃ r ds m H, I r ds m H ∧ r.ok n a.tmps ∧ a.defers = marks ds ∧ Sat w0 m H w else Q (.exit j) a w
  | e, a, w => Q e a w
attribute [irreducible] QJoinX
end
end Go.Eng

/-
  A walk's engine: all that is calm at once. No condition.
-/
set_option linter.all false
namespace Go.Eng
open Go Go.RowKit
section
variable {P : Program} {ro : Option Nat} {n : Nat} {w0 : World} {r : Env} {ds : List Nat} {m : Mem} {l : List Oper} {g : Nat} {S U : SHeap} {K : Env → Mem → SHeap → SHeap → Prop} {k V : Nat}
theorem wcal (i : Nat) {o : Oper} {d : Nat} {v : Value}
    (h : WE P ro n w0 l g ds K k (V ||| 1 <<< i) ((d, v) :: r) m S U) (hV : V.testBit i = false := by decide +kernel) (hi : Nat.blt i g = true := by exact rfl) (ho : l[i]? = some o := by exact rfl) (hr : readyB V o = true := by decide +kernel) (hd : o.dst = some d := by exact rfl) (hnd : ∀ c, o.op ≠ .defer c := by intro c h; cases h)
    (hwl : ∀ m' F, m.le m' → WL P ro n w0 l.toArray (Q1 w0 d v ds m' (S ++ F)) [o] (Env.sel (o.looksAt l.toArray) r) ds m' (S ++ F)) : WE P ro n w0 l g ds K (k + 1) V r m S U :=
  WE.calm i hV hi ho hr hd hnd hwl h
end
theorem cm0 {G G' : Prop} (next : G') (h : Bx G' → G := by intro zzn; (try (refine wcal 0 ?_ (hwl := by intro zm zF zle; ((repeat (refine sp ?_; intros)); exact WQ.q1 rfl)))); (try (refine wcal 1 ?_ (hwl := by intro zm zF zle; ((repeat (refine sp ?_; intros)); exact WQ.q1 rfl)))); (try (refine wcal 2 ?_ (hwl := by intro zm zF zle; ((repeat (refine sp ?_; intros)); exact WQ.q1 rfl)))); (try (refine wcal 3 ?_ (hwl := by intro zm zF zle; ((repeat (refine sp ?_; intros)); exact WQ.q1 rfl)))); (try (refine wcal 4 ?_ (hwl := by intro zm zF zle; ((repeat (refine sp ?_; intros)); exact WQ.q1 rfl)))); (try (refine wcal 5 ?_ (hwl := by intro zm zF zle; ((repeat (refine sp ?_; intros)); exact WQ.q1 rfl)))); (try (refine wcal 6 ?_ (hwl := by intro zm zF zle; ((repeat (refine sp ?_; intros)); exact WQ.q1 rfl)))); (try (refine wcal 7 ?_ (hwl := by intro zm zF zle; ((repeat (refine sp ?_; intros)); exact WQ.q1 rfl)))); (try (refine wcal 8 ?_ (hwl := by intro zm zF zle; ((repeat (refine sp ?_; intros)); exact WQ.q1 rfl)))); (try (refine wcal 9 ?_ (hwl := by intro zm zF zle; ((repeat (refine sp ?_; intros)); exact WQ.q1 rfl)))); (try (refine wcal 10 ?_ (hwl := by intro zm zF zle; ((repeat (refine sp ?_; intros)); exact WQ.q1 rfl)))); (try (refine wcal 11 ?_ (hwl := by intro zm zF zle; ((repeat (refine sp ?_; intros)); exact WQ.q1 rfl)))); (try (refine wcal 12 ?_ (hwl := by intro zm zF zle; ((repeat (refine sp ?_; intros)); exact WQ.q1 rfl)))); (try (refine wcal 13 ?_ (hwl := by intro zm zF zle; ((repeat (refine sp ?_; intros)); exact WQ.q1 rfl)))); (try (refine wcal 14 ?_ (hwl := by intro zm zF zle; ((repeat (refine sp ?_; intros)); exact WQ.q1 rfl)))); (try (refine wcal 15 ?_ (hwl := by intro zm zF zle; ((repeat (refine sp ?_; intros)); exact WQ.q1 rfl)))); (try (refine wcal 16 ?_ (hwl := by intro zm zF zle; ((repeat (refine sp ?_; intros)); exact WQ.q1 rfl)))); (try (refine wcal 17 ?_ (hwl := by intro zm zF zle; ((repeat (refine sp ?_; intros)); exact WQ.q1 rfl)))); (try (refine wcal 18 ?_ (hwl := by intro zm zF zle; ((repeat (refine sp ?_; intros)); exact WQ.q1 rfl)))); (try (refine wcal 19 ?_ (hwl := by intro zm zF zle; ((repeat (refine sp ?_; intros)); exact WQ.q1 rfl)))); (try (refine wcal 20 ?_ (hwl := by intro zm zF zle; ((repeat (refine sp ?_; intros)); exact WQ.q1 rfl)))); (try (refine wcal 21 ?_ (hwl := by intro zm zF zle; ((repeat (refine sp ?_; intros)); exact WQ.q1 rfl)))); (try (refine wcal 22 ?_ (hwl := by intro zm zF zle; ((repeat (refine sp ?_; intros)); exact WQ.q1 rfl)))); (try (refine wcal 23 ?_ (hwl := by intro zm zF zle; ((repeat (refine sp ?_; intros)); exact WQ.q1 rfl)))); (try (refine wcal 24 ?_ (hwl := by intro zm zF zle; ((repeat (refine sp ?_; intros)); exact WQ.q1 rfl)))); (try (refine wcal 25 ?_ (hwl := by intro zm zF zle; ((repeat (refine sp ?_; intros)); exact WQ.q1 rfl)))); (try (refine wcal 26 ?_ (hwl := by intro zm zF zle; ((repeat (refine sp ?_; intros)); exact WQ.q1 rfl)))); (try (refine wcal 27 ?_ (hwl := by intro zm zF zle; ((repeat (refine sp ?_; intros)); exact WQ.q1 rfl)))); (try (refine wcal 28 ?_ (hwl := by intro zm zF zle; ((repeat (refine sp ?_; intros)); exact WQ.q1 rfl)))); (try (refine wcal 29 ?_ (hwl := by intro zm zF zle; ((repeat (refine sp ?_; intros)); exact WQ.q1 rfl)))); (try (refine wcal 30 ?_ (hwl := by intro zm zF zle; ((repeat (refine sp ?_; intros)); exact WQ.q1 rfl)))); (try (refine wcal 31 ?_ (hwl := by intro zm zF zle; ((repeat (refine sp ?_; intros)); exact WQ.q1 rfl)))); (try (refine wcal 32 ?_ (hwl := by intro zm zF zle; ((repeat (refine sp ?_; intros)); exact WQ.q1 rfl)))); (try (refine wcal 33 ?_ (hwl := by intro zm zF zle; ((repeat (refine sp ?_; intros)); exact WQ.q1 rfl)))); (try (refine wcal 34 ?_ (hwl := by intro zm zF zle; ((repeat (refine sp ?_; intros)); exact WQ.q1 rfl)))); (try (refine wcal 35 ?_ (hwl := by intro zm zF zle; ((repeat (refine sp ?_; intros)); exact WQ.q1 rfl)))); (try (refine wcal 36 ?_ (hwl := by intro zm zF zle; ((repeat (refine sp ?_; intros)); exact WQ.q1 rfl)))); (try (refine wcal 37 ?_ (hwl := by intro zm zF zle; ((repeat (refine sp ?_; intros)); exact WQ.q1 rfl)))); (try (refine wcal 38 ?_ (hwl := by intro zm zF zle; ((repeat (refine sp ?_; intros)); exact WQ.q1 rfl)))); (try (refine wcal 39 ?_ (hwl := by intro zm zF zle; ((repeat (refine sp ?_; intros)); exact WQ.q1 rfl)))); (try (refine wcal 40 ?_ (hwl := by intro zm zF zle; ((repeat (refine sp ?_; intros)); exact WQ.q1 rfl)))); (try (refine wcal 41 ?_ (hwl := by intro zm zF zle; ((repeat (refine sp ?_; intros)); exact WQ.q1 rfl)))); exact zzn.out) : G := h ⟨next⟩
end Go.Eng

/-
  A walk's engine, nineteenth part: arrays by their address: elements, slices of them, and what is copied there. No condition.
-/
set_option linter.all false
namespace Go.Eng
open Go Go.RowKit
section
variable {P : Program} {ro : Option Nat} {n : Nat} {w0 : World} {Q : Exit → Act → World → Prop} {r : Env} {ds : List Nat} {m : Mem} {H : SHeap}
  {ops : Array Oper} {l : List Oper} {d : Nat} {ty : TypeId} {pos : String} {after : Array Edge} {t t' : TypeId} {x y : Operand}
end
section
variable {P : Program} {ro : Option Nat} {n : Nat} {w0 : World} {Q : Exit → Act → World → Prop} {r : Env} {ds : List Nat} {m : Mem} {H : SHeap} {ops : Array Oper} {l : List Oper}
theorem WL.heap {H' : SHeap} (hh : ∀ w, Sat w0 m H w → Sat w0 m H' w) (h : WL P ro n w0 ops Q l r ds m H') : WL P ro n w0 ops Q l r ds m H := fun tmps w ho hs => h tmps w ho (hh w hs)
end
theorem all_nil {α : Type} {p : α → Prop} : ∀ x ∈ ([] : List α), p x := fun _ h => by cases h
theorem all_cons {α : Type} {p : α → Prop} {a : α} {l : List α} (h : p a) (k : ∀ x ∈ l, p x) : ∀ x ∈ a :: l, p x := fun x hx => by
  rcases List.mem_cons.1 hx with rfl | hx
  · exact h
  · exact k x hx
theorem Acts.mk {P : Program} {ro : Option Nat} {n : Nat} {w0 : World} {l : List Oper} {g : Nat} {ds : List Nat} {K : Env → Mem → SHeap → SHeap → Prop} {k V : Nat} {r : Env} {m : Mem} {S U : SHeap} {i : Nat} {o : Oper} {d : Nat} (ho : l[i]? = some o) (hd : o.dst = some d) (hnd : ∀ c, o.op ≠ .defer c)
    (h : WL P ro n w0 l.toArray (QE w0 d ds S m fun v m' S' U' => WE P ro n w0 l g ds K k (V ||| 1 <<< i) ((d, v) :: r) m' S' U') [o] (Env.sel (o.looksAt l.toArray) r) ds m (S ++ U)) : Acts P ro n w0 l g ds K k V r m S U i := ⟨o, d, ho, hd, hnd, h⟩
end Go.Eng

/-
  Plain facts on changes of texts: steps, and what stands between the bytes that are kept. No condition.
-/
namespace Go.Eng
open Go
/-- a step as it came in -/
structure Stp where
  k : Int
  d : List UInt8
  p : List UInt8
  deriving DecidableEq
/-- what is put and what is dropped ahead of a byte that is kept, or at the end -/
structure Gap where
  p : List UInt8
  d : List UInt8
  deriving DecidableEq
/-- may it be: just one of the three -/
def stpOk (s : Stp) : Prop := (0 < s.k ∧ s.d = [] ∧ s.p = []) ∨ (s.k = 0 ∧ s.d ≠ [] ∧ s.p = []) ∨ (s.k = 0 ∧ s.d = [] ∧ s.p ≠ [])
instance (s : Stp) : Decidable (stpOk s) := by unfold stpOk; infer_instance
def maxT : Nat := 65536
/-- how many bytes a change is of, and makes, if it may be -/
def sizesF : List Stp → Int → Int → Option (Int × Int)
  | [], f, t => some (f, t)
  | s :: l, f, t => if stpOk s ∧ s.k ≤ maxT ∧ f + s.k + s.d.length ≤ maxT ∧ t + s.k + s.p.length ≤ maxT then sizesF l (f + s.k + s.d.length) (t + s.k + s.p.length) else none
def sizesOf (l : List Stp) : Option (Int × Int) := sizesF l 0 0
/-- the builder: what is done, and what is put and dropped since -/
structure Bld where
  l : List Stp
  p : List UInt8
  d : List UInt8
def Bld.close (b : Bld) : Bld := ⟨b.l ++ (if b.p = [] then [] else [⟨0, [], b.p⟩]) ++ (if b.d = [] then [] else [⟨0, b.d, []⟩]), [], []⟩
/-- a row is kept behind what is done -/
def addKeep (l : List Stp) (n : Int) : List Stp := match l.getLast? with
  | some s => if 0 < s.k then l.dropLast ++ [⟨s.k + n, s.d, s.p⟩] else l ++ [⟨n, [], []⟩]
  | none => [⟨n, [], []⟩]
def Bld.keep (b : Bld) (n : Int) : Bld := if n = 0 then b else ⟨addKeep b.close.l n, [], []⟩
def Bld.step (b : Bld) (s : Stp) : Bld := if 0 < s.k then b.keep s.k else if s.d ≠ [] then ⟨b.l, b.p, b.d ++ s.d⟩ else ⟨b.l, b.p ++ s.p, b.d⟩
def Bld.start : Bld := ⟨[], [], []⟩
def plainOf (l : List Stp) : List Stp := (l.foldl Bld.step Bld.start).close.l
/-- the gaps of a change -/
structure Gs where
  done : List Gap
  cur : Gap
def Gs.step (g : Gs) (s : Stp) : Gs := if 0 < s.k then ⟨g.done ++ g.cur :: List.replicate (s.k.toNat - 1) ⟨[], []⟩, ⟨[], []⟩⟩ else if s.d ≠ [] then ⟨g.done, ⟨g.cur.p, g.cur.d ++ s.d⟩⟩ else ⟨g.done, ⟨g.cur.p ++ s.p, g.cur.d⟩⟩
def Gs.start : Gs := ⟨[], ⟨[], []⟩⟩
def gapsOf (l : List Stp) : Gs := l.foldl Gs.step Gs.start
/-- the builder over gaps: each is laid, and a byte kept behind it -/
def bldGap (b : Bld) (g : Gap) : Bld := (⟨b.l, b.p ++ g.p, b.d ++ g.d⟩ : Bld).keep 1
def bldGs (g : Gs) : Bld := let b := g.done.foldl bldGap Bld.start; ⟨b.l, b.p ++ g.cur.p, b.d ++ g.cur.d⟩
theorem keep_pd (b : Bld) (n : Int) (hn : n ≠ 0) : (b.keep n).p = [] ∧ (b.keep n).d = [] := by unfold Bld.keep; rw [if_neg hn]; exact ⟨rfl, rfl⟩
theorem addKeep_add (l : List Stp) (m n : Int) (hm : 0 < m) : addKeep (addKeep l m) n = addKeep l (m + n) := by
  unfold addKeep
  cases h : l.getLast? with
  | none => simp [hm]
  | some s =>
    by_cases hs : 0 < s.k
    · simp only [hs, if_true]
      have : 0 < s.k + m := by omega
      simp [this, Int.add_assoc]
    · simp only [hs, if_false]
      simp [hm]
theorem close_keep (b : Bld) (n : Int) (hn : 0 < n) : (b.keep n).close = b.keep n := by
  unfold Bld.close
  obtain ⟨h1, h2⟩ := keep_pd b n (by omega)
  rw [h1, h2]
  cases hb : b.keep n with
  | mk l p d =>
    rw [hb] at h1 h2
    simp only at h1 h2
    subst h1; subst h2
    simp
theorem keep_keep (b : Bld) (m n : Int) (hm : 0 < m) (hn : 0 < n) : (b.keep m).keep n = b.keep (m + n) := by
  have h1 : (b.keep m).keep n = ⟨addKeep (b.keep m).close.l n, [], []⟩ := by
    conv => lhs; unfold Bld.keep
    rw [if_neg (by omega)]; rfl
  rw [h1, close_keep b m hm]
  unfold Bld.keep
  rw [if_neg (by omega), if_neg (by omega)]
  simp only []
  rw [addKeep_add _ _ _ hm]
theorem keeps_rep (b : Bld) : ∀ n : Nat, (List.replicate n (⟨[], []⟩ : Gap)).foldl bldGap (b.keep 1) = b.keep ((n : Int) + 1)
  | 0 => rfl
  | n + 1 => by
    rw [List.replicate_succ', List.foldl_append, keeps_rep b n]
    simp only [List.foldl_cons, List.foldl_nil, bldGap, List.append_nil]
    have h := keep_pd b ((n : Int) + 1) (by omega)
    rw [show (⟨(b.keep ((n : Int) + 1)).l, (b.keep ((n : Int) + 1)).p, (b.keep ((n : Int) + 1)).d⟩ : Bld) = b.keep ((n : Int) + 1) from rfl]
    rw [keep_keep b _ 1 (by omega) (by omega)]
    congr 1
/-- the builder sees a change's gaps alone -/
theorem bld_gaps : ∀ (l : List Stp) (g : Gs), l.foldl Bld.step (bldGs g) = bldGs (l.foldl Gs.step g)
  | [], _ => rfl
  | s :: l, g => by
    rw [List.foldl_cons, List.foldl_cons, ← bld_gaps l]
    congr 1
    unfold Bld.step Gs.step
    by_cases h1 : 0 < s.k
    · simp only [h1, if_true]
      rw [bldGs, bldGs]
      simp only [List.foldl_append, List.foldl_cons, List.append_nil]
      have := keeps_rep (⟨(g.done.foldl bldGap Bld.start).l, (g.done.foldl bldGap Bld.start).p ++ g.cur.p, (g.done.foldl bldGap Bld.start).d ++ g.cur.d⟩ : Bld) (s.k.toNat - 1)
      rw [show bldGap (g.done.foldl bldGap Bld.start) g.cur = (⟨(g.done.foldl bldGap Bld.start).l, (g.done.foldl bldGap Bld.start).p ++ g.cur.p, (g.done.foldl bldGap Bld.start).d ++ g.cur.d⟩ : Bld).keep 1 from rfl, this]
      rw [show ((s.k.toNat - 1 : Nat) : Int) + 1 = s.k by omega]
    · simp only [h1, if_false]
      by_cases h2 : s.d = []
      · simp [h2, bldGs]
      · simp [h2, bldGs]
theorem plain_gaps (l : List Stp) : plainOf l = (bldGs (gapsOf l)).close.l := by
  rw [plainOf, gapsOf, ← bld_gaps]; rfl
end Go.Eng

/-
  Plain facts on changes, said place by place. No condition.
-/
namespace Go.Eng
open Go
/-- a change said place by place: what it puts at each place; of each byte, whether it drops it, and which it is -/
def putsG (g : Gap) : List (List UInt8) := g.p :: List.replicate g.d.length []
def dropsG (g : Gap) : List Bool := List.replicate g.d.length true ++ [false]
def bytesG (g : Gap) : List UInt8 := g.d ++ [0]
def putsOf (g : Gs) : List (List UInt8) := g.done.flatMap putsG ++ putsG g.cur
def dropsOf (g : Gs) : List Bool := g.done.flatMap dropsG ++ List.replicate g.cur.d.length true
def bytesOf (g : Gs) : List UInt8 := g.done.flatMap bytesG ++ g.cur.d
theorem dropsG_len (g : Gap) : (dropsG g).length = g.d.length + 1 := by simp [dropsG]
theorem bytesG_len (g : Gap) : (bytesG g).length = g.d.length + 1 := by simp [bytesG]
theorem putsG_len (g : Gap) : (putsG g).length = g.d.length + 1 := by simp [putsG]
theorem said_len (g : Gs) : (bytesOf g).length = (dropsOf g).length ∧ (putsOf g).length = (dropsOf g).length + 1 := by
  have h : ∀ l : List Gap, (l.flatMap bytesG).length = (l.flatMap dropsG).length ∧ (l.flatMap putsG).length = (l.flatMap dropsG).length := by
    intro l
    induction l with
    | nil => exact ⟨rfl, rfl⟩
    | cons a l ih => simp only [List.flatMap_cons, List.length_append, bytesG_len, putsG_len, dropsG_len]; omega
  obtain ⟨h1, h2⟩ := h g.done
  simp only [bytesOf, dropsOf, putsOf, List.length_append, List.length_replicate, putsG_len]
  omega
/-- one place of it -/
def posStep (b : Bld) (x : List UInt8 × Bool × UInt8) : Bld := if x.2.1 then ⟨b.l, b.p ++ x.1, b.d ++ [x.2.2]⟩ else (⟨b.l, b.p ++ x.1, b.d⟩ : Bld).keep 1
def posOf (g : Gs) : List (List UInt8 × Bool × UInt8) := (putsOf g).zip ((dropsOf g).zip (bytesOf g))
theorem pos_drops (b : Bld) : ∀ d : List UInt8, ((List.replicate d.length ([] : List UInt8)).zip ((List.replicate d.length true).zip d)).foldl posStep b = ⟨b.l, b.p, b.d ++ d⟩
  | [] => by cases b; simp
  | x :: d => by
    simp only [List.length_cons, List.replicate_succ, List.zip_cons_cons, List.foldl_cons]
    rw [pos_drops _ d]
    simp [posStep]
theorem pos_gap (b : Bld) (g : Gap) : ((putsG g).zip ((dropsG g).zip (bytesG g))).foldl posStep b = bldGap b g := by
  unfold putsG dropsG bytesG bldGap
  cases hd : g.d with
  | nil => simp [posStep]
  | cons x d =>
    have e1 : (List.replicate (x :: d).length true ++ [false]).zip (x :: d ++ [0]) = (true, x) :: ((List.replicate d.length true).zip d ++ [(false, (0 : UInt8))]) := by
      simp only [List.length_cons, List.replicate_succ, List.cons_append, List.zip_cons_cons]
      rw [List.zip_append (by simp)]
      simp
    rw [e1]
    have e2 : (g.p :: List.replicate (x :: d).length ([] : List UInt8)).zip ((true, x) :: ((List.replicate d.length true).zip d ++ [(false, (0 : UInt8))])) =
        (g.p, true, x) :: ((List.replicate d.length ([] : List UInt8)).zip ((List.replicate d.length true).zip d) ++ [([], false, 0)]) := by
      rw [List.zip_cons_cons, List.length_cons, List.replicate_succ', List.zip_append (by simp)]
      simp
    rw [e2, List.foldl_cons, List.foldl_append, pos_drops]
    simp [posStep]
theorem pos_done : ∀ (l : List Gap) (b : Bld), ((l.flatMap putsG).zip ((l.flatMap dropsG).zip (l.flatMap bytesG))).foldl posStep b = l.foldl bldGap b
  | [], _ => rfl
  | g :: l, b => by
    rw [List.flatMap_cons, List.flatMap_cons, List.flatMap_cons, List.zip_append (by rw [dropsG_len, bytesG_len]), List.zip_append (by rw [putsG_len, List.length_zip, dropsG_len, bytesG_len]; simp), List.foldl_append, pos_gap, pos_done l, List.foldl_cons]
/-- a text put together place by place is the builder over gaps -/
theorem pos_all (g : Gs) : let b := (posOf g).foldl posStep Bld.start; (⟨b.l, b.p ++ (putsOf g).getD (dropsOf g).length [], b.d⟩ : Bld) = bldGs g := by
  have hl := said_len ⟨g.done, ⟨[], []⟩⟩
  have h : ∀ l : List Gap, (l.flatMap bytesG).length = (l.flatMap dropsG).length ∧ (l.flatMap putsG).length = (l.flatMap dropsG).length := by
    intro l
    induction l with
    | nil => exact ⟨rfl, rfl⟩
    | cons a l ih => simp only [List.flatMap_cons, List.length_append, bytesG_len, putsG_len, dropsG_len]; omega
  obtain ⟨h1, h2⟩ := h g.done
  have e : posOf g = (g.done.flatMap putsG).zip ((g.done.flatMap dropsG).zip (g.done.flatMap bytesG)) ++ (putsG g.cur).zip ((List.replicate g.cur.d.length true).zip g.cur.d) := by
    rw [posOf, putsOf, dropsOf, bytesOf, List.zip_append (by omega), List.zip_append (by rw [List.length_zip]; omega)]
  simp only []
  rw [e, List.foldl_append, pos_done]
  unfold bldGs
  simp only []
  have hlen : (dropsOf g).length = (g.done.flatMap putsG).length + g.cur.d.length := by rw [dropsOf, List.length_append, List.length_replicate]; omega
  have hget : (putsOf g).getD (dropsOf g).length [] = (putsG g.cur).getD g.cur.d.length [] := by
    rw [hlen, putsOf, List.getD_eq_getElem?_getD, List.getD_eq_getElem?_getD, List.getElem?_append_right (by omega)]
    congr 2; omega
  rw [hget]
  cases hd : g.cur.d with
  | nil => simp [putsG, hd]
  | cons x d =>
    have e2 : (putsG g.cur).zip ((List.replicate (x :: d).length true).zip (x :: d)) = (g.cur.p, true, x) :: (List.replicate d.length ([] : List UInt8)).zip ((List.replicate d.length true).zip d) := by
      have e3 : (List.replicate (x :: d).length true).zip (x :: d) = (true, x) :: (List.replicate d.length true).zip d := by rw [List.length_cons, List.replicate_succ, List.zip_cons_cons]
      rw [e3, putsG, hd, List.zip_cons_cons]
      congr 1
      rw [List.length_cons, List.replicate_succ']
      have hz : (List.replicate d.length true).zip d = (List.replicate d.length true).zip d ++ [] := by simp
      conv => lhs; rw [hz]
      rw [List.zip_append (by simp)]
      simp
    rw [e2, List.foldl_cons, pos_drops]
    simp [posStep, putsG, hd]
theorem plain_pos (l : List Stp) : let b := (posOf (gapsOf l)).foldl posStep Bld.start; plainOf l = (⟨b.l, b.p ++ (putsOf (gapsOf l)).getD (dropsOf (gapsOf l)).length [], b.d⟩ : Bld).close.l := by
  simp only []
  rw [plain_gaps, ← pos_all]
end Go.Eng

/-
  Plain facts on changes: the lists that say a change place by place, while they are filled. No condition.
-/
namespace Go.Eng
open Go
def pad {α : Type} (l : List α) (n : Nat) (x : α) : List α := l ++ List.replicate (n - l.length) x
def gapAt (g : Gs) : Nat := (g.done.flatMap dropsG).length
def atOf (g : Gs) : Nat := gapAt g + g.cur.d.length
def putsPad (N : Nat) (g : Gs) : List (List UInt8) := pad (g.done.flatMap putsG ++ [g.cur.p]) (N + 1) []
def dropsPad (N : Nat) (g : Gs) : List Bool := pad (dropsOf g) N false
def bytesPad (N : Nat) (g : Gs) : List UInt8 := pad (bytesOf g) N 0
theorem flat_lens (l : List Gap) : (l.flatMap bytesG).length = (l.flatMap dropsG).length ∧ (l.flatMap putsG).length = (l.flatMap dropsG).length := by
  induction l with
  | nil => exact ⟨rfl, rfl⟩
  | cons a l ih => simp only [List.flatMap_cons, List.length_append, bytesG_len, putsG_len, dropsG_len]; omega
theorem pad_length {α : Type} {l : List α} {n : Nat} {x : α} (h : l.length ≤ n) : (pad l n x).length = n := by unfold pad; simp; omega
theorem pad_snoc {α : Type} {l : List α} {n : Nat} {x : α} (h : l.length < n) : pad (l ++ [x]) n x = pad l n x := by
  unfold pad
  rw [List.length_append, List.length_singleton, List.append_assoc]
  congr 1
  rw [show n - l.length = (n - (l.length + 1)) + 1 by omega, List.replicate_succ]; rfl
theorem pad_snocs {α : Type} {x : α} : ∀ (k : Nat) {l : List α} {n : Nat}, l.length + k ≤ n → pad (l ++ List.replicate k x) n x = pad l n x
  | 0, l, n, _ => by simp
  | k + 1, l, n, h => by
    rw [List.replicate_succ', ← List.append_assoc, pad_snoc (by simp; omega), pad_snocs k (by omega)]
theorem pad_set {α : Type} {l : List α} {n : Nat} {x y : α} (h : l.length < n) : (pad l n x).set l.length y = pad (l ++ [y]) n x := by
  unfold pad
  rw [List.set_append_right _ _ (Nat.le_refl _), Nat.sub_self, List.length_append, List.length_singleton, List.append_assoc]
  congr 1
  rw [show n - l.length = (n - (l.length + 1)) + 1 by omega, List.replicate_succ]; rfl
theorem pad_whole {α : Type} {l : List α} {n : Nat} {x : α} (h : l.length = n) : pad l n x = l := by unfold pad; simp [h]
theorem dropsOf_len (g : Gs) : (dropsOf g).length = atOf g := by simp [dropsOf, atOf, gapAt]
theorem bytesOf_len (g : Gs) : (bytesOf g).length = atOf g := by rw [(said_len g).1, dropsOf_len]
/-- one more byte is dropped -/
def Gs.byte (g : Gs) (b : UInt8) : Gs := ⟨g.done, ⟨g.cur.p, g.cur.d ++ [b]⟩⟩
theorem byte_drops {N : Nat} {g : Gs} {b : UInt8} (h : atOf g < N) : dropsPad N (g.byte b) = (dropsPad N g).set (atOf g) true ∧ bytesPad N (g.byte b) = (bytesPad N g).set (atOf g) b ∧ putsPad N (g.byte b) = putsPad N g ∧ atOf (g.byte b) = atOf g + 1 ∧ gapAt (g.byte b) = gapAt g := by
  refine ⟨?_, ?_, rfl, by simp [atOf, gapAt, Gs.byte]; omega, rfl⟩
  · unfold dropsPad
    rw [← dropsOf_len, pad_set (by rw [dropsOf_len]; exact h)]
    congr 1
    simp [dropsOf, Gs.byte, List.replicate_succ']
  · unfold bytesPad
    rw [← bytesOf_len, pad_set (by rw [bytesOf_len]; exact h)]
    congr 1
    simp [bytesOf, Gs.byte]
/-- something more is put -/
def Gs.put (g : Gs) (s : List UInt8) : Gs := ⟨g.done, ⟨g.cur.p ++ s, g.cur.d⟩⟩
theorem put_puts {N : Nat} {g : Gs} {s : List UInt8} (h : atOf g ≤ N) : putsPad N (g.put s) = (putsPad N g).set (gapAt g) (g.cur.p ++ s) ∧ (putsPad N g)[gapAt g]? = some g.cur.p := by
  have hl := (flat_lens g.done).2
  have hg : (g.done.flatMap putsG).length = gapAt g := hl
  constructor
  · unfold putsPad pad Gs.put
    rw [List.append_assoc, List.append_assoc, List.set_append_right _ _ (by omega), hg, Nat.sub_self]
    simp
  · unfold putsPad pad
    rw [List.append_assoc, List.getElem?_append_right (by omega), hg, Nat.sub_self]
    rfl
/-- a row is kept -/
def Gs.keeps (g : Gs) (n : Nat) : Gs := ⟨g.done ++ g.cur :: List.replicate (n - 1) ⟨[], []⟩, ⟨[], []⟩⟩
theorem flat_rep {α : Type} (f : Gap → List α) (x : α) (hf : f ⟨[], []⟩ = [x]) : ∀ n, (List.replicate n (⟨[], []⟩ : Gap)).flatMap f = List.replicate n x
  | 0 => rfl
  | n + 1 => by rw [List.replicate_succ, List.flatMap_cons, flat_rep f x hf n, hf]; rfl
theorem keep_pads {N : Nat} {g : Gs} {n : Nat} (hn : 0 < n) (h : atOf g + n ≤ N) : dropsPad N (g.keeps n) = dropsPad N g ∧ bytesPad N (g.keeps n) = bytesPad N g ∧ putsPad N (g.keeps n) = putsPad N g ∧ gapAt (g.keeps n) = atOf g + n ∧ atOf (g.keeps n) = atOf g + n := by
  have hl := flat_lens g.done
  have e1 : dropsOf (g.keeps n) = dropsOf g ++ List.replicate n false := by
    simp only [dropsOf, Gs.keeps, List.flatMap_append, List.flatMap_cons, flat_rep dropsG false rfl, List.length_nil, List.replicate_zero, List.append_nil]
    obtain ⟨m, rfl⟩ : ∃ m, n = m + 1 := ⟨n - 1, by omega⟩
    rw [dropsG, List.append_assoc, List.append_assoc, List.replicate_succ, Nat.add_sub_cancel]
    rfl
  have e2 : bytesOf (g.keeps n) = bytesOf g ++ List.replicate n 0 := by
    simp only [bytesOf, Gs.keeps, List.flatMap_append, List.flatMap_cons, flat_rep bytesG 0 rfl, List.append_nil]
    obtain ⟨m, rfl⟩ : ∃ m, n = m + 1 := ⟨n - 1, by omega⟩
    rw [bytesG, List.append_assoc, List.append_assoc, List.replicate_succ, Nat.add_sub_cancel]
    rfl
  have e3 : (g.keeps n).done.flatMap putsG ++ [(g.keeps n).cur.p] = (g.done.flatMap putsG ++ [g.cur.p]) ++ List.replicate (g.cur.d.length + n) [] := by
    simp only [Gs.keeps, List.flatMap_append, List.flatMap_cons, flat_rep putsG [] rfl]
    obtain ⟨m, rfl⟩ : ∃ m, n = m + 1 := ⟨n - 1, by omega⟩
    rw [Nat.add_sub_cancel, putsG, List.append_assoc, List.append_assoc, List.cons_append, List.append_assoc, ← List.replicate_succ', List.replicate_append_replicate]
    rfl
  have hg : gapAt (g.keeps n) = atOf g + n := by
    have := congrArg List.length e1
    rw [dropsOf_len, List.length_append, dropsOf_len, List.length_replicate] at this
    simpa [atOf, Gs.keeps] using this
  refine ⟨?_, ?_, ?_, hg, by simp [atOf] at hg ⊢; rw [hg]; simp [Gs.keeps]⟩
  · rw [dropsPad, e1, pad_snocs n (by rw [dropsOf_len]; omega)]; rfl
  · rw [bytesPad, e2, pad_snocs n (by rw [bytesOf_len]; omega)]; rfl
  · rw [putsPad, e3, pad_snocs _ (by unfold atOf gapAt at h; rw [List.length_append, List.length_singleton]; omega)]; rfl
/-- the lists are full -/
theorem pads_full {N : Nat} {g : Gs} (h : atOf g = N) : dropsPad N g = dropsOf g ∧ bytesPad N g = bytesOf g ∧ putsPad N g = putsOf g := by
  refine ⟨pad_whole (by rw [dropsOf_len, h]), pad_whole (by rw [bytesOf_len, h]), ?_⟩
  have hl := (flat_lens g.done).2
  unfold atOf gapAt at h
  have e : N + 1 - (g.done.flatMap putsG ++ [g.cur.p]).length = g.cur.d.length := by rw [List.length_append, List.length_singleton]; omega
  rw [putsPad, pad, e, List.append_assoc]
  rfl
end Go.Eng

/-
  Plain facts on changes: byte by byte. No condition.
-/
namespace Go.Eng
open Go
/-- one byte of a change -/
inductive Atm where
  | k
  | d (b : UInt8)
  | p (b : UInt8)
  deriving DecidableEq
def Stp.atoms (s : Stp) : List Atm := List.replicate s.k.toNat .k ++ s.d.map .d ++ s.p.map .p
def atomsOf (l : List Stp) : List Atm := l.flatMap Stp.atoms
def Bld.atom (b : Bld) : Atm → Bld
  | .k => b.keep 1
  | .d c => ⟨b.l, b.p, b.d ++ [c]⟩
  | .p c => ⟨b.l, b.p ++ [c], b.d⟩
def Bld.run (b : Bld) (l : List Atm) : Bld := l.foldl Bld.atom b
theorem run_append (b : Bld) (x y : List Atm) : b.run (x ++ y) = (b.run x).run y := List.foldl_append ..
theorem run_d (b : Bld) : ∀ ds : List UInt8, b.run (ds.map .d) = ⟨b.l, b.p, b.d ++ ds⟩
  | [] => by cases b; simp [Bld.run]
  | x :: ds => by
    have h := run_d (b.atom (.d x)) ds
    simp only [Bld.run, List.map_cons, List.foldl_cons] at h ⊢
    rw [h]; simp [Bld.atom]
theorem run_p (b : Bld) : ∀ ds : List UInt8, b.run (ds.map .p) = ⟨b.l, b.p ++ ds, b.d⟩
  | [] => by cases b; simp [Bld.run]
  | x :: ds => by
    have h := run_p (b.atom (.p x)) ds
    simp only [Bld.run, List.map_cons, List.foldl_cons] at h ⊢
    rw [h]; simp [Bld.atom]
theorem run_k (b : Bld) : ∀ n : Nat, b.run (List.replicate n .k) = b.keep (n : Int)
  | 0 => rfl
  | n + 1 => by
    rw [List.replicate_succ', run_append, run_k b n]
    show (b.keep (n : Int)).keep 1 = _
    by_cases hn : n = 0
    · subst hn; rfl
    · rw [keep_keep b _ 1 (by omega) (by omega)]; rfl
theorem run_step (b : Bld) (s : Stp) (h : stpOk s) : b.run s.atoms = b.step s := by
  obtain ⟨k, d, p⟩ := s
  rcases h with ⟨h1, h2, h3⟩ | ⟨h1, h2, h3⟩ | ⟨h1, h2, h3⟩
  · simp only at h1 h2 h3
    subst h2; subst h3
    simp only [Stp.atoms, List.map_nil, List.append_nil, Bld.step, h1, if_true]
    rw [run_k, Int.toNat_of_nonneg (by omega)]
  · simp only at h1 h2 h3
    subst h1; subst h3
    simp [Stp.atoms, Bld.step, h2, run_d]
  · simp only at h1 h2 h3
    subst h1; subst h2
    simp [Stp.atoms, Bld.step, run_p]
/-- what a builder has laid, byte by byte -/
def gapA (g : Gap) : List Atm := g.p.map .p ++ g.d.map .d
def Bld.atoms (b : Bld) : List Atm := atomsOf b.l ++ gapA ⟨b.p, b.d⟩
def nfOf (g : Gs) : List Atm := g.done.flatMap (fun x => gapA x ++ [.k]) ++ gapA g.cur
theorem atoms_append (x y : List Stp) : atomsOf (x ++ y) = atomsOf x ++ atomsOf y := List.flatMap_append ..
theorem atoms_one (s : Stp) : atomsOf [s] = s.atoms := by simp [atomsOf]
theorem atoms_cons (s : Stp) (l : List Stp) : atomsOf (s :: l) = s.atoms ++ atomsOf l := rfl
theorem close_atoms (b : Bld) : atomsOf b.close.l = b.atoms := by
  unfold Bld.close Bld.atoms gapA
  simp only [atoms_append]
  rw [List.append_assoc]
  congr 1
  congr 1
  · by_cases h : b.p = [] <;> simp [h, atomsOf, Stp.atoms]
  · by_cases h : b.d = [] <;> simp [h, atomsOf, Stp.atoms]
theorem close_ok (b : Bld) (h : ∀ s ∈ b.l, stpOk s) : ∀ s ∈ b.close.l, stpOk s := by
  intro s hs
  unfold Bld.close at hs
  simp only [List.mem_append] at hs
  rcases hs with (hs | hs) | hs
  · exact h s hs
  · by_cases hp : b.p = []
    · simp [hp] at hs
    · simp [hp] at hs; subst hs; exact .inr (.inr ⟨rfl, rfl, hp⟩)
  · by_cases hp : b.d = []
    · simp [hp] at hs
    · simp [hp] at hs; subst hs; exact .inr (.inl ⟨rfl, hp, rfl⟩)
theorem addKeep_atoms (l : List Stp) (n : Int) (hn : 0 < n) (h : ∀ s ∈ l, stpOk s) : atomsOf (addKeep l n) = atomsOf l ++ List.replicate n.toNat .k ∧ ∀ s ∈ addKeep l n, stpOk s := by
  unfold addKeep
  cases hl : l.getLast? with
  | none =>
    have : l = [] := by simpa using hl
    subst this
    refine ⟨by simp [atomsOf, Stp.atoms], fun s hs => ?_⟩
    simp at hs; subst hs; exact .inl ⟨hn, rfl, rfl⟩
  | some s =>
    obtain ⟨ys, e⟩ := List.getLast?_eq_some_iff.1 hl
    have e2 : l.dropLast = ys := by rw [e]; simp
    rw [e2]
    have hs := h s (by rw [e]; simp)
    by_cases h0 : 0 < s.k
    · simp only [h0, if_true]
      rcases hs with ⟨_, h2, h3⟩ | ⟨h1, _, _⟩ | ⟨h1, _, _⟩
      · refine ⟨?_, fun x hx => ?_⟩
        · conv => rhs; rw [e]
          rw [atoms_append, atoms_append, atoms_one, atoms_one, List.append_assoc]
          congr 1
          simp only [Stp.atoms, h2, h3, List.map_nil, List.append_nil]
          rw [List.replicate_append_replicate]
          congr 1; omega
        · simp only [List.mem_append, List.mem_singleton] at hx
          rcases hx with hx | rfl
          · exact h x (by rw [e]; simp [hx])
          · exact .inl ⟨by simp only; omega, h2, h3⟩
      · omega
      · omega
    · simp only [h0, if_false]
      refine ⟨by rw [atoms_append, atoms_one]; simp [Stp.atoms], fun x hx => ?_⟩
      simp only [List.mem_append, List.mem_singleton] at hx
      rcases hx with hx | rfl
      · exact h x hx
      · exact .inl ⟨hn, rfl, rfl⟩
theorem keep_atoms (b : Bld) (n : Int) (hn : 0 < n) (h : ∀ s ∈ b.l, stpOk s) : (b.keep n).atoms = b.atoms ++ List.replicate n.toNat .k ∧ ∀ s ∈ (b.keep n).l, stpOk s := by
  unfold Bld.keep
  rw [if_neg (by omega)]
  obtain ⟨h1, h2⟩ := addKeep_atoms b.close.l n hn (close_ok b h)
  refine ⟨?_, h2⟩
  unfold Bld.atoms
  simp only [gapA, List.map_nil, List.append_nil]
  rw [h1, close_atoms]; rfl
theorem bldGap_atoms (b : Bld) (g : Gap) (h : ∀ s ∈ b.l, stpOk s) (hp : b.p = []) (hd : b.d = []) : (bldGap b g).atoms = b.atoms ++ (gapA g ++ [.k]) ∧ (∀ s ∈ (bldGap b g).l, stpOk s) ∧ (bldGap b g).p = [] ∧ (bldGap b g).d = [] := by
  obtain ⟨h1, h2⟩ := keep_atoms ⟨b.l, b.p ++ g.p, b.d ++ g.d⟩ 1 (by omega) h
  have h3 := keep_pd ⟨b.l, b.p ++ g.p, b.d ++ g.d⟩ 1 (by omega)
  refine ⟨?_, h2, h3.1, h3.2⟩
  rw [bldGap, h1]
  unfold Bld.atoms
  simp [hp, hd, gapA]
theorem bldGs_done : ∀ (l : List Gap) (b : Bld), (∀ s ∈ b.l, stpOk s) → b.p = [] → b.d = [] → (l.foldl bldGap b).atoms = b.atoms ++ l.flatMap (fun x => gapA x ++ [.k]) ∧ (∀ s ∈ (l.foldl bldGap b).l, stpOk s) ∧ (l.foldl bldGap b).p = [] ∧ (l.foldl bldGap b).d = []
  | [], b, h, hp, hd => ⟨by simp, h, hp, hd⟩
  | g :: l, b, h, hp, hd => by
    obtain ⟨h1, h2, h3, h4⟩ := bldGap_atoms b g h hp hd
    obtain ⟨k1, k2, k3, k4⟩ := bldGs_done l (bldGap b g) h2 h3 h4
    refine ⟨?_, k2, k3, k4⟩
    rw [List.foldl_cons, k1, h1, List.flatMap_cons, List.append_assoc]
theorem bldGs_atoms (g : Gs) : (bldGs g).atoms = nfOf g ∧ ∀ s ∈ (bldGs g).l, stpOk s := by
  obtain ⟨h1, h2, h3, h4⟩ := bldGs_done g.done Bld.start (by simp [Bld.start]) rfl rfl
  refine ⟨?_, h2⟩
  unfold bldGs nfOf
  simp only []
  rw [show (Bld.atoms ⟨(g.done.foldl bldGap Bld.start).l, (g.done.foldl bldGap Bld.start).p ++ g.cur.p, (g.done.foldl bldGap Bld.start).d ++ g.cur.d⟩) = (g.done.foldl bldGap Bld.start).atoms ++ gapA g.cur by simp [Bld.atoms, h3, h4, gapA], h1]
  simp [Bld.atoms, Bld.start, atomsOf, gapA]
theorem plain_atoms (l : List Stp) : atomsOf (plainOf l) = nfOf (gapsOf l) := by rw [plain_gaps, close_atoms, (bldGs_atoms _).1]
theorem plain_ok (l : List Stp) : ∀ s ∈ plainOf l, stpOk s := by rw [plain_gaps]; exact close_ok _ (bldGs_atoms _).2
/-- the said change, as a list of places -/
abbrev Pos := List UInt8 × Bool × UInt8
def Pos.atoms (x : Pos) : List Atm := x.1.map .p ++ [if x.2.1 then .d x.2.2 else .k]
def lastOf (g : Gs) : List UInt8 := (putsOf g).getD (dropsOf g).length []
def sdA (ps : List Pos) (last : List UInt8) : List Atm := ps.flatMap Pos.atoms ++ last.map .p
theorem run_pos (b : Bld) (x : Pos) : b.run x.atoms = posStep b x := by
  rw [Pos.atoms, run_append, run_p, posStep]
  cases h : x.2.1 <;> simp [Bld.run, Bld.atom]
theorem sd_drops : ∀ d : List UInt8, ((List.replicate d.length ([] : List UInt8)).zip ((List.replicate d.length true).zip d)).flatMap Pos.atoms = d.map .d
  | [] => rfl
  | x :: d => by
    simp only [List.length_cons, List.replicate_succ, List.zip_cons_cons, List.flatMap_cons, sd_drops d]
    rfl
theorem sd_gap (g : Gap) : ((putsG g).zip ((dropsG g).zip (bytesG g))).flatMap Pos.atoms = gapA g ++ [.k] := by
  unfold putsG dropsG bytesG gapA
  cases hd : g.d with
  | nil => simp [Pos.atoms]
  | cons x d =>
    have e1 : (List.replicate (x :: d).length true ++ [false]).zip (x :: d ++ [0]) = (true, x) :: ((List.replicate d.length true).zip d ++ [(false, (0 : UInt8))]) := by
      simp only [List.length_cons, List.replicate_succ, List.cons_append, List.zip_cons_cons]
      rw [List.zip_append (by simp)]
      simp
    rw [e1]
    have e2 : (g.p :: List.replicate (x :: d).length ([] : List UInt8)).zip ((true, x) :: ((List.replicate d.length true).zip d ++ [(false, (0 : UInt8))])) =
        (g.p, true, x) :: ((List.replicate d.length ([] : List UInt8)).zip ((List.replicate d.length true).zip d) ++ [([], false, 0)]) := by
      rw [List.zip_cons_cons, List.length_cons, List.replicate_succ', List.zip_append (by simp)]
      simp
    rw [e2, List.flatMap_cons, List.flatMap_append, sd_drops]
    simp [Pos.atoms]
theorem sd_done : ∀ l : List Gap, ((l.flatMap putsG).zip ((l.flatMap dropsG).zip (l.flatMap bytesG))).flatMap Pos.atoms = l.flatMap (fun x => gapA x ++ [.k])
  | [] => rfl
  | g :: l => by
    rw [List.flatMap_cons, List.flatMap_cons, List.flatMap_cons, List.zip_append (by rw [dropsG_len, bytesG_len]), List.zip_append (by rw [putsG_len, List.length_zip, dropsG_len, bytesG_len]; simp), List.flatMap_append, sd_gap, sd_done l, List.flatMap_cons]
theorem sd_atoms (g : Gs) : sdA (posOf g) (lastOf g) = nfOf g := by
  have hl := flat_lens g.done
  have e : posOf g = (g.done.flatMap putsG).zip ((g.done.flatMap dropsG).zip (g.done.flatMap bytesG)) ++ (putsG g.cur).zip ((List.replicate g.cur.d.length true).zip g.cur.d) := by
    rw [posOf, putsOf, dropsOf, bytesOf, List.zip_append (by omega), List.zip_append (by rw [List.length_zip]; omega)]
  have hlen : (dropsOf g).length = (g.done.flatMap putsG).length + g.cur.d.length := by rw [dropsOf, List.length_append, List.length_replicate]; omega
  have hget : lastOf g = (putsG g.cur).getD g.cur.d.length [] := by
    rw [lastOf, hlen, putsOf, List.getD_eq_getElem?_getD, List.getD_eq_getElem?_getD, List.getElem?_append_right (by omega)]
    congr 2; omega
  unfold sdA nfOf
  rw [e, hget, List.flatMap_append, sd_done, List.append_assoc]
  congr 1
  cases hd : g.cur.d with
  | nil => simp [putsG, hd, gapA]
  | cons x d =>
    have e2 : (putsG g.cur).zip ((List.replicate (x :: d).length true).zip (x :: d)) = (g.cur.p, true, x) :: (List.replicate d.length ([] : List UInt8)).zip ((List.replicate d.length true).zip d) := by
      have e3 : (List.replicate (x :: d).length true).zip (x :: d) = (true, x) :: (List.replicate d.length true).zip d := by rw [List.length_cons, List.replicate_succ, List.zip_cons_cons]
      rw [e3, putsG, hd, List.zip_cons_cons]
      congr 1
      rw [List.length_cons, List.replicate_succ']
      have hz : (List.replicate d.length true).zip d = (List.replicate d.length true).zip d ++ [] := by simp
      conv => lhs; rw [hz]
      rw [List.zip_append (by simp)]
      simp
    rw [e2, List.flatMap_cons, sd_drops]
    simp [Pos.atoms, putsG, hd, gapA]
/-- the builder over a said change -/
theorem plain_run (l : List Stp) : plainOf l = (Bld.start.run (nfOf (gapsOf l))).close.l := by
  rw [← sd_atoms, sdA, run_append, run_p]
  have h : ∀ (ps : List Pos) (b : Bld), b.run (ps.flatMap Pos.atoms) = ps.foldl posStep b := by
    intro ps
    induction ps with
    | nil => intro b; rfl
    | cons x ps ih => intro b; rw [List.flatMap_cons, run_append, run_pos, ih, List.foldl_cons]
  rw [h]
  exact plain_pos l
end Go.Eng

/-
  Plain facts on changes: where a place goes. No condition.
-/
namespace Go.Eng
open Go
/-- one step of the program's way -/
def moveStep (at_ : Int) (b : Bool) (st : Int × Int) (s : Stp) : Int × Int :=
  if s.p ≠ [] then (if st.2 < at_ ∨ (st.2 = at_ ∧ b = true) then st.1 + s.p.length else st.1, st.2)
  else if s.d ≠ [] then (st.1, st.2 + s.d.length)
  else (st.1 + max 0 (min s.k (at_ - st.2)), st.2 + s.k)
def moveAtm (at_ : Int) (b : Bool) (st : Int × Int) : Atm → Int × Int
  | .p _ => (if st.2 < at_ ∨ (st.2 = at_ ∧ b = true) then st.1 + 1 else st.1, st.2)
  | .d _ => (st.1, st.2 + 1)
  | .k => (if st.2 < at_ then st.1 + 1 else st.1, st.2 + 1)
theorem move_p (at_ : Int) (b : Bool) : ∀ (ds : List UInt8) (o a : Int), (ds.map Atm.p).foldl (moveAtm at_ b) (o, a) = (if a < at_ ∨ (a = at_ ∧ b = true) then o + ds.length else o, a)
  | [], o, a => by simp
  | x :: ds, o, a => by
    simp only [List.map_cons, List.foldl_cons, moveAtm]
    rw [move_p at_ b ds]
    by_cases h : a < at_ ∨ (a = at_ ∧ b = true)
    · simp only [h, if_true, List.length_cons]; congr 1; omega
    · simp only [h, if_false]
theorem move_d (at_ : Int) (b : Bool) : ∀ (ds : List UInt8) (o a : Int), (ds.map Atm.d).foldl (moveAtm at_ b) (o, a) = (o, a + ds.length)
  | [], o, a => by simp
  | x :: ds, o, a => by
    simp only [List.map_cons, List.foldl_cons, moveAtm]
    rw [move_d at_ b ds, List.length_cons]; congr 1; omega
theorem move_k (at_ : Int) (b : Bool) : ∀ (n : Nat) (o a : Int), (List.replicate n Atm.k).foldl (moveAtm at_ b) (o, a) = (o + max 0 (min (n : Int) (at_ - a)), a + n)
  | 0, o, a => by simp; omega
  | n + 1, o, a => by
    simp only [List.replicate_succ, List.foldl_cons, moveAtm]
    rw [move_k at_ b n]
    by_cases h : a < at_
    · simp only [h, if_true]; congr 1 <;> omega
    · simp only [h, if_false]; congr 1 <;> omega
theorem move_step (at_ : Int) (b : Bool) (st : Int × Int) (s : Stp) (h : stpOk s) : s.atoms.foldl (moveAtm at_ b) st = moveStep at_ b st s := by
  obtain ⟨k, d, p⟩ := s
  obtain ⟨o, a⟩ := st
  rcases h with ⟨h1, h2, h3⟩ | ⟨h1, h2, h3⟩ | ⟨h1, h2, h3⟩
  · simp only at h1 h2 h3
    subst h2; subst h3
    simp only [Stp.atoms, List.map_nil, List.append_nil, moveStep]
    rw [move_k, Int.toNat_of_nonneg (by omega)]; simp
  · simp only at h1 h2 h3
    subst h1; subst h3
    simp [Stp.atoms, moveStep, h2, move_d]
  · simp only at h1 h2 h3
    subst h1; subst h2
    simp only [Stp.atoms, moveStep, h3]
    simp only [Int.toNat_zero, List.replicate_zero, List.map_nil, List.nil_append]
    rw [move_p, if_pos h3]
theorem move_steps (at_ : Int) (b : Bool) : ∀ (l : List Stp) (st : Int × Int), (∀ s ∈ l, stpOk s) → (atomsOf l).foldl (moveAtm at_ b) st = l.foldl (moveStep at_ b) st
  | [], _, _ => rfl
  | s :: l, st, h => by
    rw [atoms_cons, List.foldl_append, move_step at_ b st s (h s List.mem_cons_self), move_steps at_ b l _ (fun x hx => h x (List.mem_cons_of_mem _ hx)), List.foldl_cons]
/-- the reference's way -/
def mvF : List Pos → List UInt8 → Nat → Bool → Nat
  | [], last, _, b => if b then last.length else 0
  | x :: _, _, 0, b => if b then x.1.length else 0
  | x :: ps, last, at_ + 1, b => x.1.length + (if x.2.1 then 0 else 1) + mvF ps last at_ b
theorem move_over (at_ : Int) (b : Bool) : ∀ (l : List Atm) (o a : Int), at_ < a → ∃ a', l.foldl (moveAtm at_ b) (o, a) = (o, a')
  | [], o, a, _ => ⟨a, rfl⟩
  | .p _ :: l, o, a, h => by
    simp only [List.foldl_cons, moveAtm]
    rw [if_neg (by omega)]
    exact move_over at_ b l o a h
  | .d _ :: l, o, a, h => by
    simp only [List.foldl_cons, moveAtm]
    exact move_over at_ b l o _ (by omega)
  | .k :: l, o, a, h => by
    simp only [List.foldl_cons, moveAtm]
    rw [if_neg (by omega)]
    exact move_over at_ b l o _ (by omega)
theorem sdA_cons (x : Pos) (ps : List Pos) (last : List UInt8) : sdA (x :: ps) last = x.1.map .p ++ (if x.2.1 then .d x.2.2 else .k) :: sdA ps last := by simp [sdA, Pos.atoms]
theorem sdA_nil (last : List UInt8) : sdA [] last = last.map .p := rfl
theorem move_sd (b : Bool) (last : List UInt8) : ∀ (ps : List Pos) (at_ : Nat) (o i : Int), at_ ≤ ps.length → ∃ a', (sdA ps last).foldl (moveAtm (i + at_) b) (o, i) = (o + mvF ps last at_ b, a')
  | [], at_, o, i, h => by
    simp only [List.length_nil, Nat.le_zero_eq] at h
    subst h
    refine ⟨i, ?_⟩
    rw [sdA_nil, move_p, mvF]
    cases b <;> simp
  | x :: ps, 0, o, i, _ => by
    obtain ⟨p, dr, c⟩ := x
    rw [sdA_cons, List.foldl_append, move_p, List.foldl_cons, mvF]
    have : ∀ o', moveAtm (i + (0 : Nat)) b (o', i) (if dr = true then Atm.d c else Atm.k) = (o', i + 1) := by
      intro o'
      cases dr <;> simp [moveAtm]
    simp only [this]
    obtain ⟨a', ha⟩ := move_over (i + (0 : Nat)) b (sdA ps last) (if i < i + (0 : Nat) ∨ i = i + (0 : Nat) ∧ b = true then o + p.length else o) (i + 1) (by simp; omega)
    refine ⟨a', ?_⟩
    rw [ha]
    cases b <;> simp
  | x :: ps, at_ + 1, o, i, h => by
    obtain ⟨p, dr, c⟩ := x
    rw [sdA_cons, List.foldl_append, move_p, List.foldl_cons, mvF, if_pos (by left; omega)]
    have : ∀ o', moveAtm (i + (at_ + 1 : Nat)) b (o', i) (if dr = true then Atm.d c else Atm.k) = (o' + (if dr then 0 else 1), i + 1) := by
      intro o'
      cases dr
      · simp only [moveAtm, Bool.false_eq_true, if_false]; rw [if_pos (by omega)]
      · simp [moveAtm]
    simp only [this]
    obtain ⟨a', ha⟩ := move_sd b last ps at_ (o + p.length + (if dr then 0 else 1)) (i + 1) (by simpa using h)
    refine ⟨a', ?_⟩
    have e2 : i + 1 + (at_ : Int) = i + ((at_ + 1 : Nat) : Int) := by omega
    rw [e2] at ha
    rw [ha]
    congr 1
    cases dr <;> simp <;> omega
/-- the program's answer is the reference's -/
def moveOf (l : List Stp) (at_ : Int) (b : Bool) : Int := (l.foldl (moveStep at_ b) (0, 0)).1
def movedF (l : List Stp) (at_ : Nat) (b : Bool) : Nat := mvF (posOf (gapsOf l)) (lastOf (gapsOf l)) at_ b
theorem move_all (l : List Stp) (at_ : Nat) (b : Bool) (h : at_ ≤ (posOf (gapsOf l)).length) : moveOf (plainOf l) at_ b = (movedF l at_ b : Int) := by
  unfold moveOf movedF
  rw [← move_steps at_ b _ _ (plain_ok l), plain_atoms, ← sd_atoms]
  obtain ⟨a', ha⟩ := move_sd b (lastOf (gapsOf l)) (posOf (gapsOf l)) at_ 0 0 h
  rw [Int.zero_add] at ha
  rw [ha]; simp
/-- by the lists themselves -/
theorem mvF_lists (b : Bool) : ∀ (ds : List Bool) (ps : List (List UInt8)) (bs : List UInt8) (p : Nat), bs.length = ds.length → ps.length = ds.length + 1 → p ≤ ds.length →
    mvF (ps.zip (ds.zip bs)) (ps.getD ds.length []) p b = ((ps.take p).map List.length).sum + (ds.take p).count false + (if b then (ps.getD p []).length else 0)
  | [], ps, bs, p, h1, h2, h3 => by
    simp at h3
    subst h3
    cases b <;> simp [mvF]
  | d :: ds, [], bs, p, h1, h2, h3 => by simp at h2
  | d :: ds, x :: ps, [], p, h1, h2, h3 => by simp at h1
  | d :: ds, x :: ps, c :: bs, 0, h1, h2, h3 => by cases b <;> simp [mvF]
  | d :: ds, x :: ps, c :: bs, p + 1, h1, h2, h3 => by
    have ih := mvF_lists b ds ps bs p (by simpa using h1) (by simpa using h2) (by simpa using h3)
    simp only [List.zip_cons_cons, mvF, List.length_cons, List.getD_cons_succ, List.take_succ_cons, List.map_cons, List.sum_cons, List.count_cons]
    rw [ih]
    cases d <;> simp <;> omega
theorem moved_lists (l : List Stp) (p : Nat) (b : Bool) (h : p ≤ (dropsOf (gapsOf l)).length) : movedF l p b = (((putsOf (gapsOf l)).take p).map List.length).sum + ((dropsOf (gapsOf l)).take p).count false + (if b then ((putsOf (gapsOf l)).getD p []).length else 0) := by
  obtain ⟨h1, h2⟩ := said_len (gapsOf l)
  exact mvF_lists b _ _ _ p h1 h2 h
theorem pos_len (l : List Stp) : (posOf (gapsOf l)).length = (dropsOf (gapsOf l)).length := by
  obtain ⟨h1, h2⟩ := said_len (gapsOf l)
  simp only [posOf, List.length_zip]; omega
end Go.Eng

/-
  Plain facts on changes: one behind the other. No condition.
-/
namespace Go.Eng
open Go
/-- two changes byte by byte, one behind the other; none: they are apart -/
def compA : List Atm → List Atm → Option (List Atm)
  | xs, .p b :: ys => (compA xs ys).map (.p b :: ·)
  | .d b :: xs, [] => (compA xs []).map (.d b :: ·)
  | .d b :: xs, .k :: ys => (compA xs (.k :: ys)).map (.d b :: ·)
  | .d b :: xs, .d c :: ys => (compA xs (.d c :: ys)).map (.d b :: ·)
  | [], [] => some []
  | [], .k :: _ => some []
  | [], .d _ :: _ => some []
  | .k :: _, [] => some []
  | .p _ :: _, [] => some []
  | .k :: xs, .k :: ys => (compA xs ys).map (.k :: ·)
  | .k :: xs, .d c :: ys => (compA xs ys).map (.d c :: ·)
  | .p b :: xs, .k :: ys => (compA xs ys).map (.p b :: ·)
  | .p b :: xs, .d c :: ys => if b = c then compA xs ys else none
termination_by xs ys => xs.length + ys.length
def notPut : List Atm → Bool
  | .p _ :: _ => false
  | _ => true
theorem compA_p (xs : List Atm) (b : UInt8) (ys : List Atm) : compA xs (.p b :: ys) = (compA xs ys).map (.p b :: ·) := by rw [compA]
theorem compA_d (b : UInt8) (xs ys : List Atm) (h : notPut ys = true) : compA (.d b :: xs) ys = (compA xs ys).map (.d b :: ·) := by
  match ys, h with
  | [], _ => rw [compA]
  | .k :: _, _ => rw [compA]
  | .d _ :: _, _ => rw [compA]
  | .p _ :: _, h => simp [notPut] at h
theorem compA_nil (ys : List Atm) (h : notPut ys = true) : compA [] ys = some [] := by
  match ys, h with
  | [], _ => rw [compA]
  | .k :: _, _ => rw [compA]
  | .d _ :: _, _ => rw [compA]
  | .p _ :: _, h => simp [notPut] at h
theorem compA_ps (xs : List Atm) : ∀ (ds : List UInt8) (ys : List Atm), compA xs (ds.map .p ++ ys) = (compA xs ys).map (ds.map .p ++ ·)
  | [], ys => by simp
  | b :: ds, ys => by
    rw [List.map_cons, List.cons_append, compA_p, compA_ps xs ds ys, Option.map_map]; rfl
theorem compA_ds : ∀ (ds : List UInt8) (xs ys : List Atm), notPut ys = true → compA (ds.map .d ++ xs) ys = (compA xs ys).map (ds.map .d ++ ·)
  | [], xs, ys, _ => by simp
  | b :: ds, xs, ys, h => by
    rw [List.map_cons, List.cons_append, compA_d _ _ _ h, compA_ds ds xs ys h, Option.map_map]; rfl
theorem compA_kk : ∀ (n : Nat) (xs ys : List Atm), compA (List.replicate n .k ++ xs) (List.replicate n .k ++ ys) = (compA xs ys).map (List.replicate n .k ++ ·)
  | 0, xs, ys => by simp
  | n + 1, xs, ys => by
    rw [List.replicate_succ, List.cons_append, List.cons_append, compA, compA_kk n xs ys, Option.map_map]; rfl
theorem compA_kd : ∀ (ds : List UInt8) (xs ys : List Atm), compA (List.replicate ds.length .k ++ xs) (ds.map .d ++ ys) = (compA xs ys).map (ds.map .d ++ ·)
  | [], xs, ys => by simp
  | b :: ds, xs, ys => by
    rw [List.length_cons, List.replicate_succ, List.map_cons, List.cons_append, List.cons_append, compA, compA_kd ds xs ys, Option.map_map]; rfl
theorem compA_pk : ∀ (ds : List UInt8) (xs ys : List Atm), compA (ds.map .p ++ xs) (List.replicate ds.length .k ++ ys) = (compA xs ys).map (ds.map .p ++ ·)
  | [], xs, ys => by simp
  | b :: ds, xs, ys => by
    rw [List.length_cons, List.replicate_succ, List.map_cons, List.cons_append, List.cons_append, compA, compA_pk ds xs ys, Option.map_map]; rfl
theorem compA_pd : ∀ (ds es : List UInt8) (xs ys : List Atm), ds.length = es.length → compA (ds.map .p ++ xs) (es.map .d ++ ys) = if ds = es then compA xs ys else none
  | [], [], xs, ys, _ => by simp
  | b :: ds, c :: es, xs, ys, h => by
    rw [List.map_cons, List.map_cons, List.cons_append, List.cons_append, compA, compA_pd ds es xs ys (by simpa using h)]
    by_cases hb : b = c
    · subst hb; simp
    · simp [hb]
  | [], _ :: _, _, _, h => by simp at h
  | _ :: _, [], _, _, h => by simp at h
/-- how many bytes a change is of, and makes -/
def fromA : List Atm → Nat
  | [] => 0
  | .k :: l => fromA l + 1
  | .d _ :: l => fromA l + 1
  | .p _ :: l => fromA l
def toA : List Atm → Nat
  | [] => 0
  | .k :: l => toA l + 1
  | .d _ :: l => toA l
  | .p _ :: l => toA l + 1
theorem fromA_append : ∀ x y : List Atm, fromA (x ++ y) = fromA x + fromA y
  | [], y => by simp [fromA]
  | .k :: x, y => by simp only [List.cons_append, fromA, fromA_append x y]; omega
  | .d _ :: x, y => by simp only [List.cons_append, fromA, fromA_append x y]; omega
  | .p _ :: x, y => by simp only [List.cons_append, fromA, fromA_append x y]
theorem toA_append : ∀ x y : List Atm, toA (x ++ y) = toA x + toA y
  | [], y => by simp [toA]
  | .k :: x, y => by simp only [List.cons_append, toA, toA_append x y]; omega
  | .d _ :: x, y => by simp only [List.cons_append, toA, toA_append x y]
  | .p _ :: x, y => by simp only [List.cons_append, toA, toA_append x y]; omega
theorem fromA_d (l : List UInt8) : fromA (l.map .d) = l.length := by induction l with
  | nil => rfl
  | cons a l ih => simp [fromA, ih]
theorem fromA_p (l : List UInt8) : fromA (l.map .p) = 0 := by induction l with
  | nil => rfl
  | cons a l ih => simp [fromA, ih]
theorem toA_d (l : List UInt8) : toA (l.map .d) = 0 := by induction l with
  | nil => rfl
  | cons a l ih => simp [toA, ih]
theorem toA_p (l : List UInt8) : toA (l.map .p) = l.length := by induction l with
  | nil => rfl
  | cons a l ih => simp [toA, ih]
theorem fromA_k (n : Nat) : fromA (List.replicate n .k) = n := by induction n with
  | zero => rfl
  | succ n ih => simp [List.replicate_succ, fromA, ih]
theorem toA_k (n : Nat) : toA (List.replicate n .k) = n := by induction n with
  | zero => rfl
  | succ n ih => simp [List.replicate_succ, toA, ih]
theorem from_step (s : Stp) : fromA s.atoms = s.k.toNat + s.d.length := by simp [Stp.atoms, fromA_append, fromA_k, fromA_d, fromA_p]
theorem to_step (s : Stp) : toA s.atoms = s.k.toNat + s.p.length := by simp [Stp.atoms, toA_append, toA_k, toA_d, toA_p]
/-- sizes of a change that may be -/
theorem sizesF_some : ∀ (l : List Stp) (f t a b : Int), 0 ≤ f → 0 ≤ t → sizesF l f t = some (a, b) → (∀ s ∈ l, stpOk s ∧ s.k ≤ maxT) ∧ a = f + (fromA (atomsOf l) : Int) ∧ b = t + (toA (atomsOf l) : Int) ∧ (l ≠ [] → a ≤ maxT ∧ b ≤ maxT)
  | [], f, t, a, b, _, _, h => by
    simp only [sizesF, Option.some.injEq, Prod.mk.injEq] at h
    obtain ⟨rfl, rfl⟩ := h
    simp [atomsOf, fromA, toA]
  | s :: l, f, t, a, b, hf, ht, h => by
    rw [sizesF] at h
    split at h
    · rename_i hc
      obtain ⟨h1, h2, h3, h4⟩ := hc
      have hk : 0 ≤ s.k := by rcases h1 with ⟨h, _, _⟩ | ⟨h, _, _⟩ | ⟨h, _, _⟩ <;> omega
      obtain ⟨g1, g2, g3, g4⟩ := sizesF_some l _ _ a b (by omega) (by omega) h
      refine ⟨?_, ?_, ?_, fun _ => ?_⟩
      · intro x hx
        rcases List.mem_cons.1 hx with rfl | hx
        · exact ⟨h1, h2⟩
        · exact g1 x hx
      · rw [g2, atoms_cons, fromA_append, from_step]; omega
      · rw [g3, atoms_cons, toA_append, to_step]; omega
      · by_cases hl : l = []
        · subst hl
          simp only [sizesF, Option.some.injEq, Prod.mk.injEq] at h
          omega
        · exact g4 hl
    · cases h
theorem sizesOf_some {l : List Stp} {a b : Int} (h : sizesOf l = some (a, b)) : (∀ s ∈ l, stpOk s ∧ s.k ≤ maxT) ∧ a = (fromA (atomsOf l) : Int) ∧ b = (toA (atomsOf l) : Int) ∧ a ≤ maxT ∧ b ≤ maxT := by
  obtain ⟨h1, h2, h3, h4⟩ := sizesF_some l 0 0 a b (by omega) (by omega) h
  refine ⟨h1, by omega, by omega, ?_⟩
  by_cases hl : l = []
  · subst hl
    simp only [sizesOf, sizesF, Option.some.injEq, Prod.mk.injEq] at h
    unfold maxT; omega
  · exact h4 hl
/-- the gaps of a change, byte by byte -/
def Gs.atom (g : Gs) : Atm → Gs
  | .k => ⟨g.done ++ [g.cur], ⟨[], []⟩⟩
  | .d c => ⟨g.done, ⟨g.cur.p, g.cur.d ++ [c]⟩⟩
  | .p c => ⟨g.done, ⟨g.cur.p ++ [c], g.cur.d⟩⟩
def Gs.run (g : Gs) (l : List Atm) : Gs := l.foldl Gs.atom g
theorem grun_append (b : Gs) (x y : List Atm) : b.run (x ++ y) = (b.run x).run y := List.foldl_append ..
theorem grun_d (b : Gs) : ∀ ds : List UInt8, b.run (ds.map .d) = ⟨b.done, ⟨b.cur.p, b.cur.d ++ ds⟩⟩
  | [] => by cases b; simp [Gs.run]
  | x :: ds => by
    have h := grun_d (b.atom (.d x)) ds
    simp only [Gs.run, List.map_cons, List.foldl_cons] at h ⊢
    rw [h]; simp [Gs.atom]
theorem grun_p (b : Gs) : ∀ ds : List UInt8, b.run (ds.map .p) = ⟨b.done, ⟨b.cur.p ++ ds, b.cur.d⟩⟩
  | [] => by cases b; simp [Gs.run]
  | x :: ds => by
    have h := grun_p (b.atom (.p x)) ds
    simp only [Gs.run, List.map_cons, List.foldl_cons] at h ⊢
    rw [h]; simp [Gs.atom]
theorem grun_k (b : Gs) : ∀ n : Nat, b.run (List.replicate (n + 1) .k) = b.keeps (n + 1)
  | 0 => by simp [Gs.run, Gs.atom, Gs.keeps, List.replicate]
  | n + 1 => by
    rw [List.replicate_succ', grun_append, grun_k b n]
    simp only [Gs.run, List.foldl_cons, List.foldl_nil, Gs.atom, Gs.keeps]
    simp [List.replicate_succ']
theorem grun_step (g : Gs) (s : Stp) (h : stpOk s) : g.run s.atoms = g.step s := by
  obtain ⟨k, d, p⟩ := s
  rcases h with ⟨h1, h2, h3⟩ | ⟨h1, h2, h3⟩ | ⟨h1, h2, h3⟩
  · simp only at h1 h2 h3
    subst h2; subst h3
    simp only [Stp.atoms, List.map_nil, List.append_nil, Gs.step, h1, if_true]
    obtain ⟨n, hn⟩ : ∃ n, k.toNat = n + 1 := ⟨k.toNat - 1, by omega⟩
    rw [hn, grun_k]; simp [Gs.keeps]
  · simp only at h1 h2 h3
    subst h1; subst h3
    simp [Stp.atoms, Gs.step, h2, grun_d]
  · simp only at h1 h2 h3
    subst h1; subst h2
    simp [Stp.atoms, Gs.step, grun_p]
theorem gaps_run : ∀ (l : List Stp) (g : Gs), (∀ s ∈ l, stpOk s) → g.run (atomsOf l) = l.foldl Gs.step g
  | [], g, _ => rfl
  | s :: l, g, h => by
    rw [atoms_cons, grun_append, grun_step g s (h s List.mem_cons_self), gaps_run l _ (fun x hx => h x (List.mem_cons_of_mem _ hx)), List.foldl_cons]
theorem gapsOf_run (l : List Stp) (h : ∀ s ∈ l, stpOk s) : gapsOf l = Gs.start.run (atomsOf l) := (gaps_run l _ h).symm
/-- what a change is of, and makes, by its gaps -/
theorem nf_from (g : Gs) (a : Atm) : fromA (nfOf (g.atom a)) = fromA (nfOf g) + fromA [a] ∧ toA (nfOf (g.atom a)) = toA (nfOf g) + toA [a] := by
  cases a <;> simp only [Gs.atom, nfOf, gapA, List.flatMap_append, List.flatMap_cons, List.flatMap_nil, fromA_append, toA_append, List.map_append, fromA_p, fromA_d, toA_p, toA_d, fromA, toA, List.map_cons, List.map_nil, List.append_nil] <;> omega
theorem nf_run : ∀ (l : List Atm) (g : Gs), fromA (nfOf (g.run l)) = fromA (nfOf g) + fromA l ∧ toA (nfOf (g.run l)) = toA (nfOf g) + toA l
  | [], g => ⟨rfl, rfl⟩
  | a :: l, g => by
    obtain ⟨h1, h2⟩ := nf_run l (g.atom a)
    obtain ⟨h3, h4⟩ := nf_from g a
    have e1 : fromA (a :: l) = fromA [a] + fromA l := fromA_append [a] l
    have e2 : toA (a :: l) = toA [a] + toA l := toA_append [a] l
    rw [show g.run (a :: l) = (g.atom a).run l from rfl, h1, h2, h3, h4, e1, e2]
    omega
theorem nf_sizes (l : List Stp) (h : ∀ s ∈ l, stpOk s) : fromA (nfOf (gapsOf l)) = fromA (atomsOf l) ∧ toA (nfOf (gapsOf l)) = toA (atomsOf l) := by
  obtain ⟨h1, h2⟩ := nf_run (atomsOf l) Gs.start
  rw [gapsOf_run l h, h1, h2]
  simp [Gs.start, nfOf, gapA, fromA, toA]
theorem sd_from (last : List UInt8) : ∀ ps : List Pos, fromA (sdA ps last) = ps.length
  | [] => by rw [sdA_nil, fromA_p]; rfl
  | x :: ps => by
    rw [sdA_cons, fromA_append, fromA_p]
    cases h : x.2.1 <;> simp [fromA, sd_from last ps]
theorem drops_from (l : List Stp) (h : ∀ s ∈ l, stpOk s) : (dropsOf (gapsOf l)).length = fromA (atomsOf l) := by
  rw [← pos_len, ← sd_from (lastOf (gapsOf l)), sd_atoms, (nf_sizes l h).1]
end Go.Eng

/-
  The walks of package edit, first part: the law's own copy of a change, the sizes of a change. No condition.
-/
namespace Go.Eng
def Stp.cs (s : Stp) : List Value := [.int .i64 s.k, str s.d, str s.p]
/-- how much of a change the law goes through -/
def refN : List Stp → Nat → Int → Bool
  | [], _, _ => true
  | s :: l, i, n =>
    let n' := n + ((s.d.length : Int) + (s.p.length : Int)) + (if 0 < s.k ∧ s.k ≤ 65536 then s.k / 8 else 0)
    if 5000 < n' ∨ 5000 < i then false else refN l (i + 1) n'
def smallOf (l : List Stp) : Bool := refN l 0 0
/-- of such size that no number grows too large -/
structure Fit (l : List Stp) : Prop where
  len : l.length ≤ 1048576
  k : ∀ s ∈ l, -9223372036854775808 ≤ s.k ∧ s.k ≤ 9223372036854775807
  d : ∀ s ∈ l, s.d.length ≤ 1048576
  p : ∀ s ∈ l, s.p.length ≤ 1048576
theorem sizesF_good {x : Stp} {l : List Stp} {f t : Int} (h1 : stpOk x) (h2 : x.k ≤ 65536) (h3 : f + x.k + x.d.length ≤ 65536) (h4 : t + x.k + x.p.length ≤ 65536) : sizesF (x :: l) f t = sizesF l (f + x.k + x.d.length) (t + x.k + x.p.length) := if_pos ⟨h1, h2, h3, h4⟩
theorem sizesF_bad {x : Stp} {l : List Stp} {f t : Int} (h : ¬ (stpOk x ∧ x.k ≤ 65536 ∧ f + x.k + x.d.length ≤ 65536 ∧ t + x.k + x.p.length ≤ 65536)) : sizesF (x :: l) f t = none := if_neg h
def szR : Option (Int × Int) → Value
  | some (a, b) => .tuple #[.int .i64 a, .int .i64 b, .bool true]
  | none => .tuple #[.int .i64 0, .int .i64 0, .bool false]
def szP : Option (Int × Int) → Value
  | some (a, b) => .tuple #[.int .i64 a, .int .i64 b, .int .i64 0]
  | none => .tuple #[.int .i64 0, .int .i64 0, .int .i64 2]
end Go.Eng
namespace Go.Proofs.Ytelgegefmjlimaa
open Go Go.Eng
set_option maxRecDepth 100000
set_option maxHeartbeats 4000000
set_option linter.all false
attribute [local irreducible] WL WC WQ QFun QLoop Does Q1 QRound QAssign Go.Addr.add
theorem cmx_E1_0 {G G' : Prop} (next : G') (h : Bx G' → G := by intro zzn; (try (refine wcal 0 ?_ (hwl := by intro zm zF zle; have hrz := (hr ([] ++ zF)).le zle; ((repeat (refine sp ?_; intros)); exact WQ.q1 rfl)))); (try (refine wcal 1 ?_ (hwl := by intro zm zF zle; have hrz := (hr ([] ++ zF)).le zle; ((repeat (refine sp ?_; intros)); exact WQ.q1 rfl)))); (try (refine wcal 2 ?_ (hwl := by intro zm zF zle; have hrz := (hr ([] ++ zF)).le zle; ((repeat (refine sp ?_; intros)); exact WQ.q1 rfl)))); (try (refine wcal 3 ?_ (hwl := by intro zm zF zle; have hrz := (hr ([] ++ zF)).le zle; ((repeat (refine sp ?_; intros)); exact WQ.q1 rfl)))); (try (refine wcal 4 ?_ (hwl := by intro zm zF zle; have hrz := (hr ([] ++ zF)).le zle; ((repeat (refine sp ?_; intros)); exact WQ.q1 rfl)))); (try (refine wcal 5 ?_ (hwl := by intro zm zF zle; have hrz := (hr ([] ++ zF)).le zle; ((repeat (refine sp ?_; intros)); exact WQ.q1 rfl)))); (try (refine wcal 6 ?_ (hwl := by intro zm zF zle; have hrz := (hr ([] ++ zF)).le zle; ((repeat (refine sp ?_; intros)); exact WQ.q1 rfl)))); (try (refine wcal 7 ?_ (hwl := by intro zm zF zle; have hrz := (hr ([] ++ zF)).le zle; ((repeat (refine sp ?_; intros)); exact WQ.q1 rfl)))); (try (refine wcal 8 ?_ (hwl := by intro zm zF zle; have hrz := (hr ([] ++ zF)).le zle; ((repeat (refine sp ?_; intros)); exact WQ.q1 rfl)))); (try (refine wcal 9 ?_ (hwl := by intro zm zF zle; have hrz := (hr ([] ++ zF)).le zle; ((repeat (refine sp ?_; intros)); exact WQ.q1 rfl)))); (try (refine wcal 10 ?_ (hwl := by intro zm zF zle; have hrz := (hr ([] ++ zF)).le zle; ((repeat (refine sp ?_; intros)); exact WQ.q1 rfl)))); (try (refine wcal 11 ?_ (hwl := by intro zm zF zle; have hrz := (hr ([] ++ zF)).le zle; ((repeat (refine sp ?_; intros)); exact WQ.q1 rfl)))); (try (refine wcal 12 ?_ (hwl := by intro zm zF zle; have hrz := (hr ([] ++ zF)).le zle; ((repeat (refine sp ?_; intros)); exact WQ.q1 rfl)))); (try (refine wcal 13 ?_ (hwl := by intro zm zF zle; have hrz := (hr ([] ++ zF)).le zle; ((repeat (refine sp ?_; intros)); exact WQ.q1 rfl)))); (try (refine wcal 14 ?_ (hwl := by intro zm zF zle; have hrz := (hr ([] ++ zF)).le zle; ((repeat (refine sp ?_; intros)); exact WQ.q1 rfl)))); (try (refine wcal 15 ?_ (hwl := by intro zm zF zle; have hrz := (hr ([] ++ zF)).le zle; ((repeat (refine sp ?_; intros)); exact WQ.q1 rfl)))); (try (refine wcal 16 ?_ (hwl := by intro zm zF zle; have hrz := (hr ([] ++ zF)).le zle; ((repeat (refine sp ?_; intros)); exact WQ.q1 rfl)))); (try (refine wcal 17 ?_ (hwl := by intro zm zF zle; have hrz := (hr ([] ++ zF)).le zle; ((repeat (refine sp ?_; intros)); exact WQ.q1 rfl)))); (try (refine wcal 18 ?_ (hwl := by intro zm zF zle; have hrz := (hr ([] ++ zF)).le zle; ((repeat (refine sp ?_; intros)); exact WQ.q1 rfl)))); (try (refine wcal 19 ?_ (hwl := by intro zm zF zle; have hrz := (hr ([] ++ zF)).le zle; ((repeat (refine sp ?_; intros)); exact WQ.q1 rfl)))); (try (refine wcal 20 ?_ (hwl := by intro zm zF zle; have hrz := (hr ([] ++ zF)).le zle; ((repeat (refine sp ?_; intros)); exact WQ.q1 rfl)))); (try (refine wcal 21 ?_ (hwl := by intro zm zF zle; have hrz := (hr ([] ++ zF)).le zle; ((repeat (refine sp ?_; intros)); exact WQ.q1 rfl)))); (try (refine wcal 22 ?_ (hwl := by intro zm zF zle; have hrz := (hr ([] ++ zF)).le zle; ((repeat (refine sp ?_; intros)); exact WQ.q1 rfl)))); (try (refine wcal 23 ?_ (hwl := by intro zm zF zle; have hrz := (hr ([] ++ zF)).le zle; ((repeat (refine sp ?_; intros)); exact WQ.q1 rfl)))); (try (refine wcal 24 ?_ (hwl := by intro zm zF zle; have hrz := (hr ([] ++ zF)).le zle; ((repeat (refine sp ?_; intros)); exact WQ.q1 rfl)))); (try (refine wcal 25 ?_ (hwl := by intro zm zF zle; have hrz := (hr ([] ++ zF)).le zle; ((repeat (refine sp ?_; intros)); exact WQ.q1 rfl)))); (try (refine wcal 26 ?_ (hwl := by intro zm zF zle; have hrz := (hr ([] ++ zF)).le zle; ((repeat (refine sp ?_; intros)); exact WQ.q1 rfl)))); (try (refine wcal 27 ?_ (hwl := by intro zm zF zle; have hrz := (hr ([] ++ zF)).le zle; ((repeat (refine sp ?_; intros)); exact WQ.q1 rfl)))); (try (refine wcal 28 ?_ (hwl := by intro zm zF zle; have hrz := (hr ([] ++ zF)).le zle; ((repeat (refine sp ?_; intros)); exact WQ.q1 rfl)))); (try (refine wcal 29 ?_ (hwl := by intro zm zF zle; have hrz := (hr ([] ++ zF)).le zle; ((repeat (refine sp ?_; intros)); exact WQ.q1 rfl)))); (try (refine wcal 30 ?_ (hwl := by intro zm zF zle; have hrz := (hr ([] ++ zF)).le zle; ((repeat (refine sp ?_; intros)); exact WQ.q1 rfl)))); (try (refine wcal 31 ?_ (hwl := by intro zm zF zle; have hrz := (hr ([] ++ zF)).le zle; ((repeat (refine sp ?_; intros)); exact WQ.q1 rfl)))); (try (refine wcal 32 ?_ (hwl := by intro zm zF zle; have hrz := (hr ([] ++ zF)).le zle; ((repeat (refine sp ?_; intros)); exact WQ.q1 rfl)))); (try (refine wcal 33 ?_ (hwl := by intro zm zF zle; have hrz := (hr ([] ++ zF)).le zle; ((repeat (refine sp ?_; intros)); exact WQ.q1 rfl)))); (try (refine wcal 34 ?_ (hwl := by intro zm zF zle; have hrz := (hr ([] ++ zF)).le zle; ((repeat (refine sp ?_; intros)); exact WQ.q1 rfl)))); (try (refine wcal 35 ?_ (hwl := by intro zm zF zle; have hrz := (hr ([] ++ zF)).le zle; ((repeat (refine sp ?_; intros)); exact WQ.q1 rfl)))); (try (refine wcal 36 ?_ (hwl := by intro zm zF zle; have hrz := (hr ([] ++ zF)).le zle; ((repeat (refine sp ?_; intros)); exact WQ.q1 rfl)))); (try (refine wcal 37 ?_ (hwl := by intro zm zF zle; have hrz := (hr ([] ++ zF)).le zle; ((repeat (refine sp ?_; intros)); exact WQ.q1 rfl)))); (try (refine wcal 38 ?_ (hwl := by intro zm zF zle; have hrz := (hr ([] ++ zF)).le zle; ((repeat (refine sp ?_; intros)); exact WQ.q1 rfl)))); (try (refine wcal 39 ?_ (hwl := by intro zm zF zle; have hrz := (hr ([] ++ zF)).le zle; ((repeat (refine sp ?_; intros)); exact WQ.q1 rfl)))); (try (refine wcal 40 ?_ (hwl := by intro zm zF zle; have hrz := (hr ([] ++ zF)).le zle; ((repeat (refine sp ?_; intros)); exact WQ.q1 rfl)))); (try (refine wcal 41 ?_ (hwl := by intro zm zF zle; have hrz := (hr ([] ++ zF)).le zle; ((repeat (refine sp ?_; intros)); exact WQ.q1 rfl)))); exact zzn.out) : G := h ⟨next⟩
theorem ref_any {a : Option Addr} {cap : Nat} {l : List Stp} (hf : Fit l) (w0 : World) (m : Mem) (H : SHeap) (hr : ∀ Hp, RowR w0 m Hp 3 a (l.map Stp.cs)) :
    Does Try.prog 13 #[.slice a l.length cap] w0 m H (fun v m' H' => m' = m ∧ ((smallOf l = true ∧ ∃ c cp, v = .tuple #[.slice c l.length cp, .bool true] ∧ H' = .row c cp 84 3 (l.map Stp.cs) :: H) ∨ (smallOf l = false ∧ v = .tuple #[.slice none 0 0, .bool false] ∧ H' = H))) := by
  refine Does.of_body (args := [.slice a l.length cap]) Try.func13 rfl Try.ntmps13 rfl ?_
  have hln : (l.map Stp.cs).length = l.length := by simp
  have hlen := hf.len
  (try (refine st ?_; intros))
  refine WC.loopH [(5, .int .i64 ((0) : Int)), (4, .int .i64 (0)), (0, .slice a l.length cap)] ?_ ?_ (fun j r ds m' H' => ∃ (i : _) (n : Int), j = l.length - i ∧ r = [(5, .int .i64 (i : Int)), (4, .int .i64 n), (0, .slice a l.length cap)] ∧ ds = [] ∧ m = m' ∧ H' = H ∧ (i ≤ l.length) ∧ (0 ≤ n ∧ n ≤ 5000) ∧ (refN (l.drop i) i n = smallOf l)) (l.length - (0)) ⟨0, 0, rfl, rfl, rfl, rfl, rfl, by omega, by omega, rfl⟩ ?_
  · (repeat (first | exact Env.Sub.nil | refine Env.Sub.cons rfl ?_))
  · exact zpk
  rintro j r ds m' H' ⟨i, n, rfl, rfl, rfl, rfl, rfl, hi, hn, hs⟩
  generalize H' = H
  by_cases hlt : i < l.length
  · obtain ⟨x, hx, hget, htk, hmem, hdr⟩ := at_idx (f := Stp.cs) hlt
    have hk := hf.k x hmem
    have hd := hf.d x hmem
    have hp := hf.p x hmem
    rw [hdr, refN] at hs
    have hr1 := hr H
    refine WC.rSome hr1 (by omega) ?_
    rintro a0 rfl
    by_cases h1 : 0 < x.k ∧ x.k ≤ 65536
    · simp only [h1, and_self, if_true] at hs
      by_cases h2 : 5000 < n + ((x.d.length : Int) + (x.p.length : Int)) + x.k / 8 ∨ 5000 < (i : Int)
      · rw [if_pos (by omega)] at hs
        rcases Decidable.em (5000 < n + ((x.d.length : Int) + (x.p.length : Int)) + x.k / 8) with h3 | h3
        all_goals ((try (refine st ?_; intros)); exact q_fin0 (H0 := H) ⟨rfl, .inr ⟨hs.symm, rfl, rfl⟩⟩ (hd := zpk))
      · rw [if_neg (by omega)] at hs
        (try (refine st ?_; intros))
        refine WQ.next (l.length - (i + 1)) ⟨i + 1, _, rfl, rfl, rfl, rfl, rfl, ?_, ?_, ?_⟩ (by omega) zsb zpk
        · omega
        · omega
        · exact hs
    · simp only [h1, if_false, Int.add_zero] at hs
      by_cases h2 : 5000 < n + ((x.d.length : Int) + (x.p.length : Int)) ∨ 5000 < (i : Int)
      · rw [if_pos (by omega)] at hs
        rcases Decidable.em (5000 < n + ((x.d.length : Int) + (x.p.length : Int))) with h3 | h3 <;> rcases Decidable.em (0 < x.k) with h4 | h4
        all_goals ((try (refine st ?_; intros)); exact q_fin0 (H0 := H) ⟨rfl, .inr ⟨hs.symm, rfl, rfl⟩⟩ (hd := zpk))
      · rw [if_neg (by omega)] at hs
        rcases Decidable.em (0 < x.k) with h4 | h4
        · (try (refine st ?_; intros))
          refine WQ.next (l.length - (i + 1)) ⟨i + 1, _, rfl, rfl, rfl, rfl, rfl, ?_, ?_, ?_⟩ (by omega) zsb zpk
          · omega
          · omega
          · exact hs
        · (try (refine st ?_; intros))
          refine WQ.next (l.length - (i + 1)) ⟨i + 1, _, rfl, rfl, rfl, rfl, rfl, ?_, ?_, ?_⟩ (by omega) zsb zpk
          · omega
          · omega
          · exact hs
  · obtain rfl : i = l.length := by omega
    rw [List.drop_length, refN] at hs
    (try (refine st ?_; intros))
    refine WC.newRow (T := 84) (sz := 3) ?_
    refine WC.loopH [(7, .int .i64 ((0) : Int)), (6, .slice (none) (0) (0)), (0, .slice a l.length cap)] ?_ ?_ (fun j r ds m' H' => ∃ i c cp k, j = l.length - i ∧ r = [(7, .int .i64 (i : Int)), (6, .slice c k cp), (0, .slice a l.length cap)] ∧ ds = [] ∧ m = m' ∧ H' = .row c cp 84 3 ((l.map Stp.cs).take i) :: H ∧ (i ≤ l.length) ∧ (k = i)) (l.length - (0)) ⟨0, none, 0, 0, rfl, rfl, rfl, rfl, rfl, by omega, rfl⟩ ?_
    · (repeat (first | exact Env.Sub.nil | refine Env.Sub.cons rfl ?_))
    · exact zpk
    rintro j r ds m' H' ⟨i, c, cp, k, rfl, rfl, rfl, rfl, rfl, hi2, hk⟩
    subst hk
    by_cases hlt : k < l.length
    · obtain ⟨x, hx, hget, htk, hmem, hdr⟩ := at_idx (f := Stp.cs) hlt
      have hr1 := hr (.row c cp 84 3 ((l.map Stp.cs).take k) :: H)
      have htl : ((l.map Stp.cs).take k).length = k := by simp; omega
      have e : (l.map Stp.cs).take k ++ [x.cs] = (l.map Stp.cs).take (k + 1) := by rw [List.take_add_one, hget]; rfl
      refine WC.rSome hr1 (by omega) ?_
      rintro a0 rfl
      (try (refine st ?_; intros))
      refine WC.drawE 20 ([]) (.row c cp 84 3 ((l.map Stp.cs).take k) :: H) rfl (by decide +kernel) zpk ?_
      (refine cmx_E1_0 ?_)
      refine WE.act1 17 (by decide +kernel) rfl rfl (fun c h => by cases h) ?_
      (refine st ?_; intros; rename_i q0)
      refine WQ.acted (B := []) (U := .blk q0 (.cells [.int .i64 x.k, str x.d, str x.p].toArray 84 (0, 0)) :: .row c cp 84 3 ((l.map Stp.cs).take k) :: H) rfl (Mem.le.refl _) zpk ?_
      refine WE.act1 18 (by decide +kernel) rfl rfl (fun c h => by cases h) ?_
      (refine st ?_; intros; rename_i c2 cp2)
      refine WQ.acted (B := []) (U := .row c2 cp2 84 3 ((l.map Stp.cs).take k ++ [[.int .i64 x.k, str x.d, str x.p]]) :: H) rfl (Mem.le.refl _) zpk ?_
      (refine cmx_E1_0 ?_)
      refine WE.done (by decide +kernel) ?_
      (try (refine st ?_; intros))
      rw [htl]
      refine WQ.next (l.length - (k + 1)) ⟨k + 1, c2, cp2, k + 1, rfl, rfl, rfl, rfl, rfl, ?_, ?_⟩ (by omega) zsb ?_
      · omega
      · rfl
      · rw [← e]; exact zpk
    · obtain rfl : k = l.length := by omega
      (try (refine st ?_; intros))
      have e : (l.map Stp.cs).take l.length = l.map Stp.cs := by rw [← hln]; exact List.take_length
      rw [e]
      exact q_fin0 (H0 := .row c cp 84 3 (l.map Stp.cs) :: H) ⟨rfl, .inl ⟨hs.symm, c, cp, rfl, rfl⟩⟩ (hd := zpk)
end Go.Proofs.Ytelgegefmjlimaa

/-
  How the laws' arguments that are changes are read. No condition.
-/
namespace Go.Eng
open Go Go.RowKit Go.ChangeShapes Go.WideShapes Go.ChangeMaps
def Stp.dat {H : Type} (x : Stp) : DataW H := .agg [.lit (.int .i64 x.k), .lit (.string x.d), .lit (.string x.p)]
end Go.Eng
namespace Go.Proofs.Ytelgegefmjlimaa
open Go Go.Eng
theorem steps_len {H : Type} (l : List Stp) : l.length ≤ Rows.uptoBulkAll (l.map (Stp.dat (H := H))) ∧ ∀ x ∈ l, x.d.length ≤ Rows.uptoBulkAll (l.map (Stp.dat (H := H))) ∧ x.p.length ≤ Rows.uptoBulkAll (l.map (Stp.dat (H := H))) := by
  induction l with
  | nil => simp
  | cons x l ih =>
    have h1 : Rows.uptoBulk (Stp.dat (H := H) x) = 1 + (x.d.length + 1 + (x.p.length + 1)) + 1 := by simp [Stp.dat, Rows.uptoBulk, Rows.uptoBulkAll]
    simp only [List.map_cons, Rows.uptoBulkAll, List.length_cons]
    refine ⟨by omega, fun y hy => ?_⟩
    rcases List.mem_cons.1 hy with rfl | hy
    · omega
    · have := ih.2 y hy; omega
theorem fit_of {H : Type} {d : DataW H} {l : List Stp} {spare : List (DataW H)} (hk : ∀ x ∈ l, -9223372036854775808 ≤ x.k ∧ x.k ≤ 9223372036854775807) (hd : d = .nil ∧ l = [] ∨ d = .slice (l.map Stp.dat) spare) (hb : Rows.uptoBulk d ≤ 1048576) : Fit l := by
  rcases hd with ⟨rfl, rfl⟩ | rfl
  · exact ⟨by simp, by simp, by simp, by simp⟩
  · simp only [Rows.uptoBulk] at hb
    obtain ⟨h1, h2⟩ := steps_len (H := H) l
    exact ⟨by omega, hk, fun x hx => by have := h2 x hx; omega, fun x hx => by have := h2 x hx; omega⟩
end Go.Proofs.Ytelgegefmjlimaa

/-
  The walks of package edit, fourth part: the builder's close. No condition.
-/
namespace Go.Proofs.Ytelgegefmjlimaa
open Go Go.Eng
set_option maxRecDepth 100000
set_option maxHeartbeats 4000000
set_option linter.all false
attribute [local irreducible] WL WC WQ QFun QLoop Does Q1 QRound QAssign Go.Addr.add
theorem close_any {b : Nat} {c : Option Addr} {cp : Nat} (B : Bld) (hB : B.l.length ≤ 1000000000000) (w0 : World) (m : Mem) (H : SHeap) :
    Does Try.prog 72 #[.pointer (some ⟨b, 0, none⟩)] w0 m (.blk b (.cells [.slice c B.l.length cp, str B.p, str B.d].toArray 98 (0, 0)) :: .row c cp 59 3 (B.l.map Stp.cs) :: H)
      (fun v m' H' => v = .tuple #[] ∧ m' = m ∧ ∃ c' cp', H' = .blk b (.cells [.slice c' B.close.l.length cp', str [], str []].toArray 98 (0, 0)) :: .row c' cp' 59 3 (B.close.l.map Stp.cs) :: H) := by
  refine Does.of_body (args := [.pointer (some ⟨b, 0, none⟩)]) Try.func72 rfl Try.ntmps72 rfl ?_
  have hml : (B.l.map Stp.cs).length = B.l.length := by simp
  by_cases hp : B.p = [] <;> by_cases hd : B.d = []
  · (try (refine st ?_; intros))
    have e : B.close.l = B.l := by simp [Bld.close, hp, hd]
    rw [hp, hd]
    exact q_finNorm0 (H0 := .blk b (.cells [.slice c B.l.length cp, str [], str []].toArray 98 (0, 0)) :: .row c cp 59 3 (B.l.map Stp.cs) :: H) ⟨rfl, rfl, c, cp, by rw [e]⟩ (hd := zpk)
  · (try (refine st ?_; intros))
    refine WC.drawE 14 ([.blk b (.cells [.slice c B.l.length cp, str B.p, str B.d].toArray 98 (0, 0))]) (.row c cp 59 3 (B.l.map Stp.cs) :: H) rfl (by decide +kernel) zpk ?_
    (refine cm0 ?_)
    refine WE.act1 10 (by decide +kernel) rfl rfl (fun c h => by cases h) ?_
    (refine st ?_; intros; rename_i q0)
    refine WQ.acted (B := []) (U := .blk q0 (.cells [.int .i64 0, str B.d, str []].toArray 59 (0, 0)) :: .row c cp 59 3 (B.l.map Stp.cs) :: H) rfl (Mem.le.refl _) zpk ?_
    refine WE.act1 11 (by decide +kernel) rfl rfl (fun c h => by cases h) ?_
    (refine st ?_; intros; rename_i c2 cp2)
    refine WQ.acted (B := []) (U := .row c2 cp2 59 3 (B.l.map Stp.cs ++ [[.int .i64 0, str B.d, str []]]) :: H) rfl (Mem.le.refl _) zpk ?_
    (refine cm0 ?_)
    refine WE.done (by decide +kernel) ?_
    (try (refine st ?_; intros))
    rw [hml, hp]
    have e : B.close.l = B.l ++ [⟨0, B.d, []⟩] := by simp [Bld.close, hp, hd]
    exact q_finNorm0 (H0 := .blk b (.cells [.slice c2 (B.l.length + 1) cp2, str [], str []].toArray 98 (0, 0)) :: .row c2 cp2 59 3 (B.l.map Stp.cs ++ [[.int .i64 0, str B.d, str []]]) :: H) ⟨rfl, rfl, c2, cp2, by rw [e]; simp [Stp.cs]⟩ (hd := zpk)
  · (try (refine st ?_; intros))
    refine WC.drawE 14 ([.blk b (.cells [.slice c B.l.length cp, str B.p, str B.d].toArray 98 (0, 0))]) (.row c cp 59 3 (B.l.map Stp.cs) :: H) rfl (by decide +kernel) zpk ?_
    (refine cm0 ?_)
    refine WE.act1 10 (by decide +kernel) rfl rfl (fun c h => by cases h) ?_
    (refine st ?_; intros; rename_i q0)
    refine WQ.acted (B := []) (U := .blk q0 (.cells [.int .i64 0, str [], str B.p].toArray 59 (0, 0)) :: .row c cp 59 3 (B.l.map Stp.cs) :: H) rfl (Mem.le.refl _) zpk ?_
    refine WE.act1 11 (by decide +kernel) rfl rfl (fun c h => by cases h) ?_
    (refine st ?_; intros; rename_i c2 cp2)
    refine WQ.acted (B := []) (U := .row c2 cp2 59 3 (B.l.map Stp.cs ++ [[.int .i64 0, str [], str B.p]]) :: H) rfl (Mem.le.refl _) zpk ?_
    (refine cm0 ?_)
    refine WE.done (by decide +kernel) ?_
    (try (refine st ?_; intros))
    rw [hml, hd]
    have e : B.close.l = B.l ++ [⟨0, [], B.p⟩] := by simp [Bld.close, hp, hd]
    exact q_finNorm0 (H0 := .blk b (.cells [.slice c2 (B.l.length + 1) cp2, str [], str []].toArray 98 (0, 0)) :: .row c2 cp2 59 3 (B.l.map Stp.cs ++ [[.int .i64 0, str [], str B.p]]) :: H) ⟨rfl, rfl, c2, cp2, by rw [e]; simp [Stp.cs]⟩ (hd := zpk)
  · have hml1 : (B.l.map Stp.cs ++ [[.int .i64 0, str [], str B.p]]).length = B.l.length + 1 := by simp
    (try (refine st ?_; intros))
    refine WC.drawE 14 ([.blk b (.cells [.slice c B.l.length cp, str B.p, str B.d].toArray 98 (0, 0))]) (.row c cp 59 3 (B.l.map Stp.cs) :: H) rfl (by decide +kernel) zpk ?_
    (refine cm0 ?_)
    refine WE.act1 10 (by decide +kernel) rfl rfl (fun c h => by cases h) ?_
    (refine st ?_; intros; rename_i q0)
    refine WQ.acted (B := []) (U := .blk q0 (.cells [.int .i64 0, str [], str B.p].toArray 59 (0, 0)) :: .row c cp 59 3 (B.l.map Stp.cs) :: H) rfl (Mem.le.refl _) zpk ?_
    refine WE.act1 11 (by decide +kernel) rfl rfl (fun c h => by cases h) ?_
    (refine st ?_; intros; rename_i c2 cp2)
    refine WQ.acted (B := []) (U := .row c2 cp2 59 3 (B.l.map Stp.cs ++ [[.int .i64 0, str [], str B.p]]) :: H) rfl (Mem.le.refl _) zpk ?_
    (refine cm0 ?_)
    refine WE.done (by decide +kernel) ?_
    (try (refine st ?_; intros))
    rw [hml]
    refine WC.drawE 14 ([.blk b (.cells [.slice c2 (B.l.length + 1) cp2, str B.p, str B.d].toArray 98 (0, 0))]) (.row c2 cp2 59 3 (B.l.map Stp.cs ++ [[.int .i64 0, str [], str B.p]]) :: H) rfl (by decide +kernel) zpk ?_
    (refine cm0 ?_)
    refine WE.act1 10 (by decide +kernel) rfl rfl (fun c h => by cases h) ?_
    (refine st ?_; intros; rename_i q0)
    refine WQ.acted (B := []) (U := .blk q0 (.cells [.int .i64 0, str B.d, str []].toArray 59 (0, 0)) :: .row c2 cp2 59 3 (B.l.map Stp.cs ++ [[.int .i64 0, str [], str B.p]]) :: H) rfl (Mem.le.refl _) zpk ?_
    refine WE.act1 11 (by decide +kernel) rfl rfl (fun c h => by cases h) ?_
    (refine st ?_; intros; rename_i c3 cp3)
    refine WQ.acted (B := []) (U := .row c3 cp3 59 3 (B.l.map Stp.cs ++ [[.int .i64 0, str [], str B.p]] ++ [[.int .i64 0, str B.d, str []]]) :: H) rfl (Mem.le.refl _) zpk ?_
    (refine cm0 ?_)
    refine WE.done (by decide +kernel) ?_
    (try (refine st ?_; intros))
    rw [hml1]
    have e : B.close.l = B.l ++ [⟨0, [], B.p⟩] ++ [⟨0, B.d, []⟩] := by simp [Bld.close, hp, hd]
    exact q_finNorm0 (H0 := .blk b (.cells [.slice c3 (B.l.length + 1 + 1) cp3, str [], str []].toArray 98 (0, 0)) :: .row c3 cp3 59 3 (B.l.map Stp.cs ++ [[.int .i64 0, str [], str B.p]] ++ [[.int .i64 0, str B.d, str []]]) :: H) ⟨rfl, rfl, c3, cp3, by rw [e]; simp [Stp.cs]⟩ (hd := zpk)
end Go.Proofs.Ytelgegefmjlimaa

/-
  Plain facts on changes: how large a builder grows. No condition.
-/
namespace Go.Eng
open Go
/-- no number of it is above N -/
structure BFit (N : Nat) (B : Bld) : Prop where
  len : B.l.length ≤ N
  k : ∀ s ∈ B.l, 0 ≤ s.k ∧ s.k ≤ N
  p : B.p.length ≤ N
  d : B.d.length ≤ N
theorem BFit.mono {N M : Nat} {B : Bld} (h : BFit N B) (hm : N ≤ M) : BFit M B :=
  ⟨by have := h.len; omega, fun s hs => by have := h.k s hs; omega, by have := h.p; omega, by have := h.d; omega⟩
theorem BFit.start : BFit 0 Bld.start := ⟨Nat.le_refl _, fun s hs => by simp [Bld.start] at hs, Nat.le_refl _, Nat.le_refl _⟩
theorem BFit.close {N : Nat} {B : Bld} (h : BFit N B) : BFit (N + 2) B.close := by
  refine ⟨?_, fun s hs => ?_, by simp [Bld.close], by simp [Bld.close]⟩
  · have := h.len
    unfold Bld.close
    split <;> split <;> simp <;> omega
  · unfold Bld.close at hs
    simp only [List.mem_append] at hs
    rcases hs with (hs | hs) | hs
    · have := h.k s hs; omega
    · split at hs <;> simp at hs; subst hs; simp; omega
    · split at hs <;> simp at hs; subst hs; simp; omega
theorem addKeep_k {N : Nat} {l : List Stp} {n : Nat} (h : ∀ s ∈ l, 0 ≤ s.k ∧ s.k ≤ N) : (∀ s ∈ addKeep l n, 0 ≤ s.k ∧ s.k ≤ ((N + n : Nat) : Int)) ∧ (addKeep l n).length ≤ l.length + 1 := by
  unfold addKeep
  cases hl : l.getLast? with
  | none => simp; omega
  | some s =>
    obtain ⟨ys, e⟩ := List.getLast?_eq_some_iff.1 hl
    have hs := h s (by rw [e]; simp)
    have e2 : l.dropLast = ys := by rw [e]; simp
    simp only [e2]
    split
    · refine ⟨fun x hx => ?_, by rw [e]; simp⟩
      simp only [List.mem_append, List.mem_singleton] at hx
      rcases hx with hx | rfl
      · have := h x (by rw [e]; simp [hx]); omega
      · simp; omega
    · refine ⟨fun x hx => ?_, by simp⟩
      simp only [List.mem_append, List.mem_singleton] at hx
      rcases hx with hx | rfl
      · have := h x hx; omega
      · simp; omega
theorem BFit.keep {N n : Nat} {B : Bld} (h : BFit N B) : BFit (N + n + 3) (B.keep n) := by
  unfold Bld.keep
  split
  · exact h.mono (by omega)
  · have hc := h.close
    obtain ⟨h1, h2⟩ := addKeep_k (n := n) hc.k
    exact ⟨by have := hc.len; simp only; omega, fun s hs => by have := h1 s hs; omega, by simp, by simp⟩
theorem BFit.atom {N : Nat} {B : Bld} (h : BFit N B) (a : Atm) : BFit (N + 4) (B.atom a) := by
  cases a with
  | k => exact h.keep (n := 1)
  | d c => exact ⟨by have := h.len; simp only [Bld.atom]; omega, fun s hs => by have := h.k s hs; omega, by have := h.p; simp only [Bld.atom]; omega, by have := h.d; simp [Bld.atom]; omega⟩
  | p c => exact ⟨by have := h.len; simp only [Bld.atom]; omega, fun s hs => by have := h.k s hs; omega, by have := h.p; simp [Bld.atom]; omega, by have := h.d; simp only [Bld.atom]; omega⟩
theorem BFit.run : ∀ (l : List Atm) {N : Nat} {B : Bld}, BFit N B → BFit (N + 4 * l.length) (B.run l)
  | [], _, _, h => h
  | a :: l, N, B, h => by
    have := BFit.run l (h.atom a)
    exact this.mono (by simp; omega)
theorem BFit.runs (l : List Atm) : BFit (4 * l.length) (Bld.start.run l) := (BFit.run l BFit.start).mono (by omega)
theorem atoms_len (s : Stp) : s.atoms.length = s.k.toNat + s.d.length + s.p.length := by simp [Stp.atoms]; omega
theorem atoms_le : ∀ l : List Atm, l.length ≤ fromA l + toA l
  | [] => Nat.le_refl _
  | .k :: l => by have := atoms_le l; simp only [fromA, toA, List.length_cons]; omega
  | .d _ :: l => by have := atoms_le l; simp only [fromA, toA, List.length_cons]; omega
  | .p _ :: l => by have := atoms_le l; simp only [fromA, toA, List.length_cons]; omega
theorem steps_le : ∀ l : List Stp, (∀ s ∈ l, stpOk s) → l.length ≤ (atomsOf l).length
  | [], _ => Nat.le_refl _
  | s :: l, h => by
    have := steps_le l (fun x hx => h x (List.mem_cons_of_mem _ hx))
    have h1 : 1 ≤ s.atoms.length := by
      rw [atoms_len]
      rcases h s List.mem_cons_self with ⟨h, _, _⟩ | ⟨_, h, _⟩ | ⟨_, _, h⟩
      · omega
      · have := List.length_pos_iff.2 h; omega
      · have := List.length_pos_iff.2 h; omega
    rw [atoms_cons, List.length_append, List.length_cons]; omega
theorem snoc_cases {α : Type} (l : List α) : l = [] ∨ ∃ ys s, l = ys ++ [s] := by
  rcases List.eq_nil_or_concat l with h | ⟨ys, s, h⟩
  · exact .inl h
  · exact .inr ⟨ys, s, by simpa using h⟩
end Go.Eng

/-
  The walks of package edit, sixth part: the builder's keep, step and done. No condition.
-/
namespace Go.Proofs.Ytelgegefmjlimaa
open Go Go.Eng
set_option maxRecDepth 100000
set_option maxHeartbeats 4000000
set_option linter.all false
attribute [local irreducible] WL WC WQ QFun QLoop Does Q1 QRound QAssign Go.Addr.add
theorem keep_any {b : Nat} {c : Option Addr} {cp : Nat} (B : Bld) (n : Nat) (hn : n ≤ 100000000000) (hB : BFit 100000000000 B) (w0 : World) (m : Mem) (H : SHeap) :
    Does Try.prog 55 #[.pointer (some ⟨b, 0, none⟩), .int .i64 (n : Int)] w0 m (.blk b (.cells [.slice c B.l.length cp, str B.p, str B.d].toArray 98 (0, 0)) :: .row c cp 59 3 (B.l.map Stp.cs) :: H)
      (fun v m' H' => v = .tuple #[] ∧ m' = m ∧ ∃ c' cp', H' = .blk b (.cells [.slice c' (B.keep n).l.length cp', str (B.keep n).p, str (B.keep n).d].toArray 98 (0, 0)) :: .row c' cp' 59 3 ((B.keep n).l.map Stp.cs) :: H) := by
  refine Does.of_body (args := [.pointer (some ⟨b, 0, none⟩), .int .i64 (n : Int)]) Try.func55 rfl Try.ntmps55 rfl ?_
  have hlen := hB.len
  by_cases h0 : n = 0
  · subst h0
    (try (refine st ?_; intros))
    exact q_fin0 (H0 := .blk b (.cells [.slice c B.l.length cp, str B.p, str B.d].toArray 98 (0, 0)) :: .row c cp 59 3 (B.l.map Stp.cs) :: H) ⟨rfl, rfl, c, cp, rfl⟩ (hd := zpk)
  · (try (refine st ?_; intros))
    refine w_callF Try.func72 ?_ (hs := close_any B (by omega) _ _ _)
    rintro v m1 H1 ⟨rfl, rfl, c1, cp1, rfl⟩
    have hkeep : B.keep n = ⟨addKeep B.close.l n, [], []⟩ := by unfold Bld.keep; rw [if_neg (by omega)]
    have hc := hB.close
    rw [hkeep]
    have hcl := hc.len
    have hck := hc.k
    generalize B.close.l = L at *
    have hml : (L.map Stp.cs).length = L.length := by simp
    rcases snoc_cases L with hL | ⟨ys, s, hL⟩
    · have hl0 : L.length = 0 := by rw [hL]; rfl
      (refine st ?_; intros; rename_i x2 c2 cp2)
      rw [hml]
      have e : addKeep L n = L ++ [⟨n, [], []⟩] := by rw [hL]; rfl
      exact q_finNorm0 (H0 := .blk b (.cells [.slice c2 (L.length + 1) cp2, str [], str []].toArray 98 (0, 0)) :: .row c2 cp2 59 3 (L.map Stp.cs ++ [[.int .i64 n, str [], str []]]) :: H) ⟨rfl, rfl, c2, cp2, by rw [e]; simp [Stp.cs]⟩ (hd := zpk)
    · have hl1 : L.length = ys.length + 1 := by rw [hL]; simp
      have hget : (L.map Stp.cs)[L.length - 1]? = some s.cs := by rw [hL]; simp
      have hsk := hck s (by rw [hL]; simp)
      refine WL.rowSome (a := c1) zhs (by omega) ?_
      rintro c0 rfl
      by_cases hs : 0 < s.k
      · (try (refine st ?_; intros))
        have e : (addKeep L n).length = L.length ∧ (addKeep L n).map Stp.cs = (L.map Stp.cs).set (L.length - 1) [.int .i64 (s.k + n), str s.d, str s.p] := by
          rw [hL]; constructor <;> simp [addKeep, hs, Stp.cs]
        exact q_fin0 (H0 := .blk b (.cells [.slice (some c0) L.length cp1, str [], str []].toArray 98 (0, 0)) :: .row (some c0) cp1 59 3 ((L.map Stp.cs).set (L.length - 1) [.int .i64 (s.k + n), str s.d, str s.p]) :: H) ⟨rfl, rfl, some c0, cp1, by rw [e.1, e.2]⟩ (hd := zpk)
      · (refine st ?_; intros; rename_i x2 c2 cp2)
        rw [hml]
        have e : addKeep L n = L ++ [⟨n, [], []⟩] := by rw [hL]; simp [addKeep, hs]
        exact q_finNorm0 (H0 := .blk b (.cells [.slice c2 (L.length + 1) cp2, str [], str []].toArray 98 (0, 0)) :: .row c2 cp2 59 3 (L.map Stp.cs ++ [[.int .i64 n, str [], str []]]) :: H) ⟨rfl, rfl, c2, cp2, by rw [e]; simp [Stp.cs]⟩ (hd := zpk)
end Go.Proofs.Ytelgegefmjlimaa

/-
  The walks of package edit, eighth part: the builder's step and done, the one form of a change. No condition.
-/
namespace Go.Eng
def Stp.v (s : Stp) : Value := .agg #[.int .i64 s.k, str s.d, str s.p]
end Go.Eng
namespace Go.Proofs.Ytelgegefmjlimaa
open Go Go.Eng
set_option maxRecDepth 100000
set_option maxHeartbeats 4000000
set_option linter.all false
attribute [local irreducible] WL WC WQ QFun QLoop Does Q1 QRound QAssign Go.Addr.add
theorem step_any {b : Nat} {c : Option Addr} {cp : Nat} (B : Bld) (s : Stp) (hk : s.k ≤ 100000000000) (hd : s.d.length ≤ 100000000000) (hp : s.p.length ≤ 100000000000) (hB : BFit 100000000000 B) (w0 : World) (m : Mem) (H : SHeap) :
    Does Try.prog 45 #[.pointer (some ⟨b, 0, none⟩), s.v] w0 m (.blk b (.cells [.slice c B.l.length cp, str B.p, str B.d].toArray 98 (0, 0)) :: .row c cp 59 3 (B.l.map Stp.cs) :: H)
      (fun v m' H' => v = .tuple #[] ∧ m' = m ∧ ∃ c' cp', H' = .blk b (.cells [.slice c' (B.step s).l.length cp', str (B.step s).p, str (B.step s).d].toArray 98 (0, 0)) :: .row c' cp' 59 3 ((B.step s).l.map Stp.cs) :: H) := by
  refine Does.of_body (args := [.pointer (some ⟨b, 0, none⟩), .agg #[.int .i64 s.k, str s.d, str s.p]]) Try.func45 rfl Try.ntmps45 rfl ?_
  have h1 := hB.p
  have h2 := hB.d
  by_cases h0 : 0 < s.k
  · obtain ⟨n, hn⟩ : ∃ n : Nat, s.k = (n : Int) := ⟨s.k.toNat, by omega⟩
    have e : B.step s = B.keep n := by unfold Bld.step; rw [if_pos h0, hn]
    rw [e, hn]
    have h0' : 0 < (n : Int) := by omega
    (refine st ?_; intros; rename_i b3)
    refine WL.heap (H' := .blk b (.cells [.slice c B.l.length cp, str B.p, str B.d].toArray 98 (0, 0)) :: .row c cp 59 3 (B.l.map Stp.cs) :: H) zpk ?_
    refine w_callF Try.func55 ?_ (hs := keep_any B n (by omega) hB _ _ _)
    rintro v m1 H1 ⟨rfl, rfl, c1, cp1, rfl⟩
    (try (refine st ?_; intros))
    exact q_finNorm0 (H0 := _ :: _ :: H) ⟨rfl, rfl, c1, cp1, rfl⟩ (hd := zpk)
  · by_cases h3 : s.d = []
    · have e : B.step s = ⟨B.l, B.p ++ s.p, B.d⟩ := by unfold Bld.step; rw [if_neg h0, if_neg (fun h => h h3)]
      rw [e]
      (try (refine st ?_; intros))
      exact q_finNorm0 (H0 := .blk b (.cells [.slice c B.l.length cp, str (B.p ++ s.p), str B.d].toArray 98 (0, 0)) :: .row c cp 59 3 (B.l.map Stp.cs) :: H) ⟨rfl, rfl, c, cp, rfl⟩ (hd := zpk)
    · have e : B.step s = ⟨B.l, B.p, B.d ++ s.d⟩ := by unfold Bld.step; rw [if_neg h0, if_pos h3]
      rw [e]
      (try (refine st ?_; intros))
      exact q_finNorm0 (H0 := .blk b (.cells [.slice c B.l.length cp, str B.p, str (B.d ++ s.d)].toArray 98 (0, 0)) :: .row c cp 59 3 (B.l.map Stp.cs) :: H) ⟨rfl, rfl, c, cp, rfl⟩ (hd := zpk)
theorem done_any {b : Nat} {c : Option Addr} {cp : Nat} (B : Bld) (hB : B.l.length ≤ 1000000000000) (w0 : World) (m : Mem) (H : SHeap) :
    Does Try.prog 48 #[.pointer (some ⟨b, 0, none⟩)] w0 m (.blk b (.cells [.slice c B.l.length cp, str B.p, str B.d].toArray 98 (0, 0)) :: .row c cp 59 3 (B.l.map Stp.cs) :: H)
      (fun v m' H' => m' = m ∧ ∃ c' cp', v = .slice c' B.close.l.length cp' ∧ H' = .row c' cp' 59 3 (B.close.l.map Stp.cs) :: H) := by
  refine Does.of_body (args := [.pointer (some ⟨b, 0, none⟩)]) Try.func48 rfl Try.ntmps48 rfl ?_
  (try (refine st ?_; intros))
  refine w_callF Try.func72 ?_ (hs := close_any B hB _ _ _)
  rintro v m1 H1 ⟨rfl, rfl, c1, cp1, rfl⟩
  (try (refine st ?_; intros))
  exact q_fin0 (H0 := .row c1 cp1 59 3 (B.close.l.map Stp.cs) :: H) ⟨rfl, c1, cp1, rfl, rfl⟩ (hd := zpk)
theorem plain_any {a : Option Addr} {cap : Nat} {l : List Stp} (hok : ∀ s ∈ l, stpOk s) (hl : (atomsOf l).length ≤ 1000000000) (w0 : World) (m : Mem) (H : SHeap) (hr : RowR w0 m H 3 a (l.map Stp.cs)) :
    Does Try.prog 42 #[.slice a l.length cap] w0 m H (fun v m' H' => m' = m ∧ ∃ c' cp', v = .slice c' (plainOf l).length cp' ∧ H' = .row c' cp' 59 3 ((plainOf l).map Stp.cs) :: H) := by
  refine Does.of_body (args := [.slice a l.length cap]) Try.func42 rfl Try.ntmps42 rfl ?_
  have hln : (l.map Stp.cs).length = l.length := by simp
  have hlen := steps_le l hok
  (refine st ?_; intros; rename_i b)
  refine WC.newRow (T := 59) (sz := 3) ?_
  refine WC.loopH [(8, .int .i64 ((0) : Int)), (7, .int .i64 (l.length : Int)), (6, .slice a l.length cap), (3, .pointer (some ⟨b, 0, none⟩))] ?_ ?_ (fun j r ds m' H' => ∃ i c cp B, j = l.length - i ∧ r = [(8, .int .i64 (i : Int)), (7, .int .i64 (l.length : Int)), (6, .slice a l.length cap), (3, .pointer (some ⟨b, 0, none⟩))] ∧ ds = [] ∧ m = m' ∧ H' = .blk b (.cells [.slice c B.l.length cp, str B.p, str B.d].toArray 98 (0, 0)) :: .row c cp 59 3 (B.l.map Stp.cs) :: H ∧ (i ≤ l.length) ∧ (B = Bld.start.run (atomsOf (l.take i)))) (l.length - (0)) ⟨0, none, 0, Bld.start, rfl, rfl, rfl, rfl, rfl, by omega, by simp [atomsOf, Bld.run]⟩ ?_
  · (repeat (first | exact Env.Sub.nil | refine Env.Sub.cons rfl ?_))
  · exact zpk
  rintro j r ds m' H' ⟨i, c, cp, B, rfl, rfl, rfl, rfl, rfl, hi, hB⟩
  have htl : (atomsOf (l.take i)).length ≤ (atomsOf l).length := by
    have e : atomsOf l = atomsOf (l.take i) ++ atomsOf (l.drop i) := by rw [← atoms_append, List.take_append_drop]
    rw [e]; simp
  have hfit : BFit 10000000000 B := by rw [hB]; exact (BFit.runs _).mono (by omega)
  by_cases hlt : i < l.length
  · obtain ⟨x, hx, hget, htk, hmem, hdr⟩ := at_idx (f := Stp.cs) hlt
    have hr1 := (hr.more (i := .row c cp 59 3 (B.l.map Stp.cs))).more (i := .blk b (.cells [.slice c B.l.length cp, str B.p, str B.d].toArray 98 (0, 0)))
    have hxl : x.atoms.length ≤ (atomsOf l).length := by
      have e : atomsOf l = atomsOf (l.take (i + 1)) ++ atomsOf (l.drop (i + 1)) := by rw [← atoms_append, List.take_append_drop]
      rw [e, htk, atoms_append, atoms_one]; simp only [List.length_append]; omega
    rw [atoms_len] at hxl
    refine WC.rSome hr1 (by omega) ?_
    rintro a0 rfl
    (refine st ?_; intros; rename_i bx)
    refine WL.heap (H' := .blk b (.cells [.slice c B.l.length cp, str B.p, str B.d].toArray 98 (0, 0)) :: .row c cp 59 3 (B.l.map Stp.cs) :: H) zpk ?_
    refine w_callF Try.func45 ?_ (hs := step_any B x (by omega) (by omega) (by omega) (hfit.mono (by omega)) _ _ _)
    rintro v m1 H1 ⟨rfl, rfl, c1, cp1, rfl⟩
    (try (refine st ?_; intros))
    refine WQ.next (l.length - (i + 1)) ⟨i + 1, c1, cp1, B.step x, rfl, rfl, rfl, rfl, rfl, ?_, ?_⟩ (by omega) zsb zpk
    · omega
    · rw [htk, atoms_append, run_append, ← hB, atoms_one, run_step _ _ (hok x hmem)]
  · obtain rfl : i = l.length := by omega
    have hlen2 := hfit.len
    (try (refine st ?_; intros))
    refine w_callF Try.func48 ?_ (hs := done_any B (by omega) _ _ _)
    rintro v m1 H1 ⟨rfl, c1, cp1, rfl, rfl⟩
    (try (refine st ?_; intros))
    have e : B.close.l = plainOf l := by
      rw [hB, List.take_length, plainOf]
      have : ∀ (l : List Stp) (b : Bld), (∀ s ∈ l, stpOk s) → b.run (atomsOf l) = l.foldl Bld.step b := by
        intro l
        induction l with
        | nil => intro b _; rfl
        | cons s l ih => intro b h; rw [atoms_cons, run_append, run_step _ _ (h s List.mem_cons_self), ih _ (fun x hx => h x (List.mem_cons_of_mem _ hx)), List.foldl_cons]
      rw [this l _ hok]
    rw [e]
    exact q_fin0 (H0 := .row c1 cp1 59 3 ((plainOf l).map Stp.cs) :: H) ⟨rfl, c1, cp1, rfl, rfl⟩ (hd := zpk)
end Go.Proofs.Ytelgegefmjlimaa

/-
  The walks of package edit, second part: the sizes of a change, by the program and by the reference. No condition.
-/
namespace Go.Proofs.Ytelgegefmjlimaa
open Go Go.Eng
set_option maxRecDepth 100000
set_option maxHeartbeats 4000000
set_option linter.all false
attribute [local irreducible] WL WC WQ QFun QLoop Does Q1 QRound QAssign Go.Addr.add
attribute [local irreducible] sizesF sizesOf
theorem sizes_any {a : Option Addr} {cap : Nat} {l : List Stp} (hf : Fit l) (w0 : World) (m : Mem) (H : SHeap) (hr : RowR w0 m H 3 a (l.map Stp.cs)) :
    Does Try.prog 40 #[.slice a l.length cap] w0 m H (Gives (szP (sizesOf l)) m H) := by
  refine Does.of_body (args := [.slice a l.length cap]) Try.func40 rfl Try.ntmps40 rfl ?_
  have hln : (l.map Stp.cs).length = l.length := by simp
  have hlen := hf.len
  (try (refine st ?_; intros))
  refine WC.loopH [(12, .int .i64 ((0) : Int)), (11, .int .i64 (l.length : Int)), (10, .slice a l.length cap), (5, .int .i64 (0)), (6, .int .i64 (0))] ?_ ?_ (fun j r ds m' H' => ∃ (i : _) (f : Int) (t : Int), j = l.length - i ∧ r = [(12, .int .i64 (i : Int)), (11, .int .i64 (l.length : Int)), (10, .slice a l.length cap), (5, .int .i64 f), (6, .int .i64 t)] ∧ ds = [] ∧ m = m' ∧ H' = H ∧ (i ≤ l.length) ∧ (0 ≤ f ∧ f ≤ 65536 ∧ 0 ≤ t ∧ t ≤ 65536) ∧ (sizesF (l.drop i) f t = sizesOf l) ∧ (RowR w0 m H 3 a (l.map Stp.cs))) (l.length - (0)) ⟨0, 0, 0, rfl, rfl, rfl, rfl, rfl, by omega, by omega, by rw [sizesOf]; rfl, hr⟩ ?_
  · (repeat (first | exact Env.Sub.nil | refine Env.Sub.cons rfl ?_))
  · exact zpk
  rintro j r ds m' H' ⟨i, f, t, rfl, rfl, rfl, rfl, rfl, hi, hn, hs, hr⟩
  generalize H' = H at *
  by_cases hlt : i < l.length
  · obtain ⟨x, hx, hget, htk, hmem, hdr⟩ := at_idx (f := Stp.cs) hlt
    have hk := hf.k x hmem
    have hd := hf.d x hmem
    have hp := hf.p x hmem
    rw [hdr] at hs
    refine WC.rSome hr (by omega) ?_
    rintro a0 rfl
    have hdl : x.d = [] → x.d.length = 0 := fun h => by rw [h]; rfl
    have hpl : x.p = [] → x.p.length = 0 := fun h => by rw [h]; rfl
    by_cases h1 : x.k = 0 <;> by_cases h2 : x.d = [] <;> by_cases h3 : x.p = []
    · rw [sizesF_bad (fun h => by simp [stpOk, h1, h2, h3] at h)] at hs
      (try (refine st ?_; intros))
      exact q_fin0 (H0 := H) (Gives.mk (by rw [← hs]; try rfl)) (hd := zpk)
    · have hok : stpOk x := .inr (.inr ⟨h1, h2, h3⟩)
      have h2' := hdl h2
      by_cases h4 : t + (x.k + (x.p.length : Int)) ≤ 65536
      · rw [sizesF_good hok (by omega) (by omega) (by omega)] at hs
        (try (refine st ?_; intros))
        refine WQ.next (l.length - (i + 1)) ⟨i + 1, _, _, rfl, rfl, rfl, rfl, rfl, ?_, ?_, ?_, ?_⟩ (by omega) zsb zpk
        · omega
        · omega
        · rw [← hs]; congr 1 <;> omega
        · assumption
      · rw [sizesF_bad (by omega)] at hs
        (try (refine st ?_; intros))
        exact q_fin0 (H0 := H) (Gives.mk (by rw [← hs]; try rfl)) (hd := zpk)
    · have hok : stpOk x := .inr (.inl ⟨h1, h2, h3⟩)
      have h3' := hpl h3
      by_cases h4 : f + (x.k + (x.d.length : Int)) ≤ 65536
      · rw [sizesF_good hok (by omega) (by omega) (by omega)] at hs
        (try (refine st ?_; intros))
        refine WQ.next (l.length - (i + 1)) ⟨i + 1, _, _, rfl, rfl, rfl, rfl, rfl, ?_, ?_, ?_, ?_⟩ (by omega) zsb zpk
        · omega
        · omega
        · rw [← hs]; congr 1 <;> omega
        · assumption
      · rw [sizesF_bad (by omega)] at hs
        (try (refine st ?_; intros))
        exact q_fin0 (H0 := H) (Gives.mk (by rw [← hs]; try rfl)) (hd := zpk)
    · rw [sizesF_bad (fun h => by simp [stpOk, h1, h2, h3] at h)] at hs
      (try (refine st ?_; intros))
      exact q_fin0 (H0 := H) (Gives.mk (by rw [← hs]; try rfl)) (hd := zpk)
    · have h2' := hdl h2
      have h3' := hpl h3
      by_cases h5 : x.k < 0
      · rw [sizesF_bad (fun h => by rcases h.1 with g | g | g <;> omega)] at hs
        (try (refine st ?_; intros))
        exact q_fin0 (H0 := H) (Gives.mk (by rw [← hs]; try rfl)) (hd := zpk)
      · by_cases h6 : 65536 < x.k
        · rw [sizesF_bad (by omega)] at hs
          (try (refine st ?_; intros))
          exact q_fin0 (H0 := H) (Gives.mk (by rw [← hs]; try rfl)) (hd := zpk)
        · have hok : stpOk x := .inl ⟨by omega, h2, h3⟩
          by_cases h4 : f + (x.k + (x.d.length : Int)) ≤ 65536
          · by_cases h7 : t + (x.k + (x.p.length : Int)) ≤ 65536
            · rw [sizesF_good hok (by omega) (by omega) (by omega)] at hs
              (try (refine st ?_; intros))
              refine WQ.next (l.length - (i + 1)) ⟨i + 1, _, _, rfl, rfl, rfl, rfl, rfl, ?_, ?_, ?_, ?_⟩ (by omega) zsb zpk
              · omega
              · omega
              · rw [← hs]; congr 1 <;> omega
              · assumption
            · rw [sizesF_bad (by omega)] at hs
              (try (refine st ?_; intros))
              exact q_fin0 (H0 := H) (Gives.mk (by rw [← hs]; try rfl)) (hd := zpk)
          · rw [sizesF_bad (by omega)] at hs
            (try (refine st ?_; intros))
            exact q_fin0 (H0 := H) (Gives.mk (by rw [← hs]; try rfl)) (hd := zpk)
    all_goals
      rw [sizesF_bad (fun h => by simp [stpOk, h1, h2, h3] at h)] at hs
      (try (refine st ?_; intros))
      exact q_fin0 (H0 := H) (Gives.mk (by rw [← hs]; try rfl)) (hd := zpk)
  · obtain rfl : i = l.length := by omega
    rw [List.drop_length, sizesF] at hs
    (try (refine st ?_; intros))
    exact q_fin0 (H0 := H) (Gives.mk (by rw [← hs]; try rfl)) (hd := zpk)
end Go.Proofs.Ytelgegefmjlimaa

/-
  The walks of package edit, ninth part: where a place goes. No condition.
-/
namespace Go.Eng
/-- what a change that may be bounds -/
theorem sized {l : List Stp} {f t : Int} (h : sizesOf l = some (f, t)) : (∀ s ∈ l, stpOk s) ∧ (atomsOf l).length ≤ 131072 ∧ (atomsOf (plainOf l)).length ≤ 131072 ∧ f = (fromA (atomsOf l) : Int) ∧ t = (toA (atomsOf l) : Int) ∧ 0 ≤ f ∧ f ≤ 65536 ∧ 0 ≤ t ∧ t ≤ 65536 := by
  obtain ⟨h1, h2, h3, h4, h5⟩ := sizesOf_some h
  have hok : ∀ s ∈ l, stpOk s := fun s hs => (h1 s hs).1
  have a1 := atoms_le (atomsOf l)
  have a2 := atoms_le (atomsOf (plainOf l))
  obtain ⟨n1, n2⟩ := nf_sizes l hok
  rw [plain_atoms, n1, n2] at a2
  unfold maxT at h4 h5
  rw [plain_atoms]
  exact ⟨hok, by omega, by omega, h2, h3, by omega, by omega, by omega, by omega⟩
end Go.Eng
namespace Go.Proofs.Ytelgegefmjlimaa
open Go Go.Eng
set_option maxRecDepth 100000
set_option maxHeartbeats 4000000
set_option linter.all false
attribute [local irreducible] WL WC WQ QFun QLoop Does Q1 QRound QAssign Go.Addr.add
theorem move_any {a : Option Addr} {cap : Nat} {l : List Stp} {at_ : Int} {bh : Bool} (hok : ∀ s ∈ l, stpOk s) (hl : (atomsOf l).length ≤ 1000000000) (hat : -1000000000 ≤ at_ ∧ at_ ≤ 1000000000) (w0 : World) (m : Mem) (H : SHeap) (hr : RowR w0 m H 3 a (l.map Stp.cs)) :
    Does Try.prog 41 #[.slice a l.length cap, .int .i64 at_, .bool bh] w0 m H (Gives (.int .i64 (moveOf l at_ bh)) m H) := by
  refine Does.of_body (args := [.slice a l.length cap, .int .i64 at_, .bool bh]) Try.func41 rfl Try.ntmps41 rfl ?_
  have hln : (l.map Stp.cs).length = l.length := by simp
  have hlen := steps_le l hok
  (try (refine st ?_; intros))
  refine WC.loopH [(13, .int .i64 ((0) : Int)), (12, .int .i64 (l.length : Int)), (11, .slice a l.length cap), (1, .int .i64 at_), (2, .bool bh), (7, .int .i64 (0)), (8, .int .i64 (0))] ?_ ?_ (fun j r ds m' H' => ∃ (i : _) (o : Int) (ah : Int), j = l.length - i ∧ r = [(13, .int .i64 (i : Int)), (12, .int .i64 (l.length : Int)), (11, .slice a l.length cap), (1, .int .i64 at_), (2, .bool bh), (7, .int .i64 o), (8, .int .i64 ah)] ∧ ds = [] ∧ m = m' ∧ H' = H ∧ (i ≤ l.length) ∧ (0 ≤ o ∧ o ≤ ((atomsOf (l.take i)).length : Int) ∧ 0 ≤ ah ∧ ah ≤ ((atomsOf (l.take i)).length : Int)) ∧ ((l.drop i).foldl (moveStep at_ bh) (o, ah) = l.foldl (moveStep at_ bh) (0, 0)) ∧ (RowR w0 m H 3 a (l.map Stp.cs))) (l.length - (0)) ⟨0, 0, 0, rfl, rfl, rfl, rfl, rfl, by omega, by simp, rfl, hr⟩ ?_
  · (repeat (first | exact Env.Sub.nil | refine Env.Sub.cons rfl ?_))
  · exact zpk
  rintro j r ds m' H' ⟨i, o, ah, rfl, rfl, rfl, rfl, rfl, hi, hb, hs, hr⟩
  generalize H' = H at *
  by_cases hlt : i < l.length
  · obtain ⟨x, hx, hget, htk, hmem, hdr⟩ := at_idx (f := Stp.cs) hlt
    have hxl : (atomsOf (l.take (i + 1))).length = (atomsOf (l.take i)).length + x.atoms.length := by rw [htk, atoms_append, atoms_one, List.length_append]
    have hxm : (atomsOf (l.take (i + 1))).length ≤ (atomsOf l).length := by
      have e : atomsOf l = atomsOf (l.take (i + 1)) ++ atomsOf (l.drop (i + 1)) := by rw [← atoms_append, List.take_append_drop]
      rw [e, List.length_append]; omega
    rw [atoms_len] at hxl
    rw [hdr, List.foldl_cons] at hs
    refine WC.rSome hr (by omega) ?_
    rintro a0 rfl
    rcases hok x hmem with ⟨h1, h2, h3⟩ | ⟨h1, h2, h3⟩ | ⟨h1, h2, h3⟩
    · have e : moveStep at_ bh (o, ah) x = (o + max 0 (min x.k (at_ - ah)), ah + x.k) := by simp [moveStep, h2, h3]
      rw [e] at hs
      (try (refine st ?_; intros))
      refine WQ.next (l.length - (i + 1)) ⟨i + 1, o + max 0 (min x.k (at_ - ah)), ah + x.k, rfl, rfl, rfl, rfl, rfl, ?_, ?_, ?_, ?_⟩ (by omega) zsb zpk
      · omega
      · omega
      · exact hs
      · assumption
    · have e : moveStep at_ bh (o, ah) x = (o, ah + x.d.length) := by simp [moveStep, h2, h3]
      rw [e] at hs
      (try (refine st ?_; intros))
      refine WQ.next (l.length - (i + 1)) ⟨i + 1, o, ah + x.d.length, rfl, rfl, rfl, rfl, rfl, ?_, ?_, ?_, ?_⟩ (by omega) zsb zpk
      · omega
      · omega
      · exact hs
      · assumption
    · rcases (show ah < at_ ∨ ah = at_ ∨ at_ < ah by omega) with h4 | h4 | h4
      · have e : moveStep at_ bh (o, ah) x = (o + x.p.length, ah) := by simp [moveStep, h3, h4]
        rw [e] at hs
        (try (refine st ?_; intros))
        refine WQ.next (l.length - (i + 1)) ⟨i + 1, o + x.p.length, ah, rfl, rfl, rfl, rfl, rfl, ?_, ?_, ?_, ?_⟩ (by omega) zsb zpk
        · omega
        · omega
        · exact hs
        · assumption
      · cases bh with
        | true =>
          have e : moveStep at_ true (o, ah) x = (o + x.p.length, ah) := by simp [moveStep, h3, h4]
          rw [e] at hs
          (try (refine st ?_; intros))
          refine WQ.next (l.length - (i + 1)) ⟨i + 1, o + x.p.length, ah, rfl, rfl, rfl, rfl, rfl, ?_, ?_, ?_, ?_⟩ (by omega) zsb zpk
          · omega
          · omega
          · exact hs
          · assumption
        | false =>
          have e : moveStep at_ false (o, ah) x = (o, ah) := by simp [moveStep, h3, h4]
          rw [e] at hs
          (try (refine st ?_; intros))
          refine WQ.next (l.length - (i + 1)) ⟨i + 1, o, ah, rfl, rfl, rfl, rfl, rfl, ?_, ?_, ?_, ?_⟩ (by omega) zsb zpk
          · omega
          · omega
          · exact hs
          · assumption
      · have e : moveStep at_ bh (o, ah) x = (o, ah) := by
          simp only [moveStep]
          rw [if_pos h3, if_neg (by omega)]
        rw [e] at hs
        (try (refine st ?_; intros))
        refine WQ.next (l.length - (i + 1)) ⟨i + 1, o, ah, rfl, rfl, rfl, rfl, rfl, ?_, ?_, ?_, ?_⟩ (by omega) zsb zpk
        · omega
        · omega
        · exact hs
        · assumption
  · obtain rfl : i = l.length := by omega
    rw [List.drop_length, List.foldl_nil] at hs
    (try (refine st ?_; intros))
    exact q_fin0 (H0 := H) (Gives.mk (by rw [moveOf, ← hs])) (hd := zpk)
def moveV (l : List Stp) (at_ : Int) (bh : Bool) : Value := match sizesOf l with
  | none => .tuple #[.int .i64 0, .int .i64 2]
  | some (f, _) => if at_ < 0 ∨ f < at_ then .tuple #[.int .i64 0, .int .i64 5] else .tuple #[.int .i64 (moveOf (plainOf l) at_ bh), .int .i64 0]
end Go.Proofs.Ytelgegefmjlimaa

/-
  Plain facts on changes: what a change makes of a text. No condition.
-/
namespace Go.Eng
open Go
/-- what a change makes of a text; none: they are apart -/
def applyA : List UInt8 → List Atm → Option (List UInt8)
  | _, [] => some []
  | s, .p b :: l => (applyA s l).map (b :: ·)
  | c :: s, .k :: l => (applyA s l).map (c :: ·)
  | c :: s, .d b :: l => if c = b then applyA s l else none
  | [], .k :: _ => none
  | [], .d _ :: _ => none
theorem applyA_p (s : List UInt8) (b : UInt8) (l : List Atm) : applyA s (.p b :: l) = (applyA s l).map (b :: ·) := by cases s <;> rfl
theorem applyA_nil (s : List UInt8) : applyA s [] = some [] := by cases s <;> rfl
theorem applyA_ps (s : List UInt8) : ∀ (ds : List UInt8) (l : List Atm), applyA s (ds.map .p ++ l) = (applyA s l).map (ds ++ ·)
  | [], l => by simp
  | b :: ds, l => by rw [List.map_cons, List.cons_append, applyA_p, applyA_ps s ds l, Option.map_map]; rfl
theorem applyA_ks : ∀ (n : Nat) (s : List UInt8) (l : List Atm), n ≤ s.length → applyA s (List.replicate n .k ++ l) = (applyA (s.drop n) l).map (s.take n ++ ·)
  | 0, s, l, _ => by simp
  | n + 1, [], l, h => by simp at h
  | n + 1, c :: s, l, h => by
    rw [List.replicate_succ, List.cons_append, applyA, applyA_ks n s l (by simpa using h), Option.map_map]; rfl
theorem applyA_ds : ∀ (ds s : List UInt8) (l : List Atm), ds.length ≤ s.length → applyA s (ds.map .d ++ l) = if s.take ds.length = ds then applyA (s.drop ds.length) l else none
  | [], s, l, _ => by simp
  | b :: ds, [], l, h => by simp at h
  | b :: ds, c :: s, l, h => by
    rw [List.map_cons, List.cons_append, applyA, applyA_ds ds s l (by simpa using h)]
    by_cases hb : c = b
    · subst hb; simp
    · simp [hb]
end Go.Eng

