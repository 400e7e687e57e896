/-
  Parts of a walk, joined: EngS EngW EngX OT1 EngY EngZ EngZA O1 EngZB EngT O2. No condition.
-/
import Derived.Test.YtljfncpecpkhhaaP3
import Derived.Test.YtljfncpecpkhhaaP1
import Derived.Test.YtljfncpecpkhhaaProg
import Derived.Lib.Builder
import Derived.Lib.UnsafeStr
import Derived.Laws.Externs
set_option linter.all false
/-
  A walk's engine, eighteenth part: a region that draws its order, where some operations change the heap: what is calm is done first, what acts is done in every order that there is. No condition.
-/
set_option linter.all false
namespace Go.Eng
open Go Go.RowKit
/-- what an operation owes that may change the heap -/
def QE (w0 : World) (d : Nat) (ds : List Nat) (S : SHeap) (m : Mem) (K : Value → Mem → SHeap → SHeap → Prop) : Exit → Act → World → Prop
  | .normal, a, w => ∃ v m' B U, a.tmps[d]? = some v ∧ a.defers = marks ds ∧ m.le m' ∧ Sat w0 m' (S ++ B ++ U) w ∧ K v m' (S ++ B) U
  | _, _, _ => False
/-- the same of an operation without an answer: a store -/
def QN (w0 : World) (ds : List Nat) (S : SHeap) (m : Mem) (K : Mem → SHeap → SHeap → Prop) : Exit → Act → World → Prop
  | .normal, a, w => ∃ m' B U, a.defers = marks ds ∧ m.le m' ∧ Sat w0 m' (S ++ B ++ U) w ∧ K m' (S ++ B) U
  | _, _, _ => False
def readyV (V : Nat) (o : Oper) : Prop := ∀ e ∈ o.after, bind1 e = true → V.testBit e.on = true
section
variable {P : Program} {ro : Option Nat} {n : Nat} {w0 : World} {Q : Exit → Act → World → Prop} {r : Env} {ds : List Nat} {m : Mem} {H : SHeap}
theorem WQ.acted {d : Nat} {S B U : SHeap} {m0 : Mem} {K : Value → Mem → SHeap → SHeap → Prop} {v : Value} (hv : r.get d = some v) (hm : m0.le m) (hh : ∀ w, Sat w0 m H w → Sat w0 m (S ++ B ++ U) w) (hK : K v m (S ++ B) U) :
    WQ n w0 (QE w0 d ds S m0 K) .normal r ds m H := fun _ w ho hs => ⟨v, m, B, U, ho.at_ _ _ hv, rfl, hm, hh w hs, hK⟩
theorem WQ.stored {S B U : SHeap} {m0 : Mem} {K : Mem → SHeap → SHeap → Prop} (hm : m0.le m) (hh : ∀ w, Sat w0 m H w → Sat w0 m (S ++ B ++ U) w) (hK : K m (S ++ B) U) :
    WQ n w0 (QN w0 ds S m0 K) .normal r ds m H := fun _ w _ hs => ⟨m, B, U, rfl, hm, hh w hs, hK⟩
/-- what is left of a region: V tells which operations are done, or calm; S is what none of them changes -/
def WE (P : Program) (ro : Option Nat) (n : Nat) (w0 : World) (l : List Oper) (g : Nat) (ds : List Nat) (K : Env → Mem → SHeap → SHeap → Prop) : Nat → Nat → Env → Mem → SHeap → SHeap → Prop
  | 0, _, _, _, _, _ => False
  | k + 1, V, r, m, S, U =>
    ((∀ i, i < g → V.testBit i = true) ∧ K r m S U) ∨
    (∃ i o d v, i < g ∧ l[i]? = some o ∧ V.testBit i = false ∧ readyV V o ∧ o.dst = some d ∧ (∀ c, o.op ≠ .defer c) ∧
      (∀ m' F, m.le m' → WL P ro n w0 l.toArray (Q1 w0 d v ds m' (S ++ F)) [o] (Env.sel (o.looksAt l.toArray) r) ds m' (S ++ F)) ∧
      WE P ro n w0 l g ds K k (V ||| 1 <<< i) ((d, v) :: r) m S U) ∨
    ((∃ i, i < g ∧ V.testBit i = false) ∧ ∀ i o, i < g → l[i]? = some o → V.testBit i = false → readyV V o → (∃ d, o.dst = some d ∧ (∀ c, o.op ≠ .defer c) ∧
      WL P ro n w0 l.toArray (QE w0 d ds S m fun v m' S' U' => WE P ro n w0 l g ds K k (V ||| 1 <<< i) ((d, v) :: r) m' S' U') [o] (Env.sel (o.looksAt l.toArray) r) ds m (S ++ U)) ∨
      (o.dst = none ∧ (∀ c, o.op ≠ .defer c) ∧ WL P ro n w0 l.toArray (QN w0 ds S m fun m' S' U' => WE P ro n w0 l g ds K k (V ||| 1 <<< i) r m' S' U') [o] (Env.sel (o.looksAt l.toArray) r) ds m (S ++ U)))
theorem bit_set (V i j : Nat) : (V ||| 1 <<< i).testBit j = (V.testBit j || decide (i = j)) := by
  rw [Nat.testBit_or, Nat.one_shiftLeft, Nat.testBit_two_pow]
theorem bit_keep {V i j : Nat} (h : V.testBit j = true) : (V ||| 1 <<< i).testBit j = true := by rw [bit_set, h]; rfl
theorem bit_self (V i : Nat) : (V ||| 1 <<< i).testBit i = true := by rw [bit_set]; simp
theorem bit_old {V i j : Nat} (h : (V ||| 1 <<< i).testBit j = true) (hne : j ≠ i) : V.testBit j = true := by
  rw [bit_set] at h
  have : decide (i = j) = false := by simp; exact fun e => hne e.symm
  simpa [this] using h
theorem mask_in {l : List Oper} {g : Nat} {M : List Nat} (ok : DrawOk l g M) {p : Nat → Prop} {b : Nat} (hb : b ≤ l.length) (hc : ∀ j o, j < b → l[j]? = some o → p j → ∀ e ∈ o.after, bind1 e = true → p e.on) :
    ∀ j o, j < b → l[j]? = some o → (∀ e ∈ o.after, bind1 e = true → p e.on) → ∀ i, (M.getD j 0).testBit i = true → p i := by
  intro j
  induction j using Nat.strongRecOn with
  | _ j ih =>
    intro o hjb ho hw i hi
    rw [← ok.sub j o ho, Nat.testBit_and, Bool.and_eq_true] at hi
    rcases mask_bits M o.after.toList 0 i hi.2 with h | ⟨e, he, hbd, h⟩
    · simp at h
    · have he' : e ∈ o.after := by simpa using he
      have hon := hw e he' hbd
      rcases h with rfl | h
      · exact hon
      · have hlt := ok.down j o ho e he' hbd
        have hl : e.on < l.length := by omega
        exact ih e.on hlt l[e.on] (by omega) (List.getElem?_eq_getElem hl) (hc e.on _ (by omega) (List.getElem?_eq_getElem hl) hon) i h
/-- from what an operation owes, whatever comes behind it -/
theorem wpOp_of_post {ops : Array Oper} {i : Nat} {o : Oper} {d : Nat} {tmps : Array Value} {w : World} {Qx : Exit → Act → World → Prop} {K : Act → World → Prop} (hi : ops[i]? = some o) (hd : o.dst = some d) (hnd : ∀ c, o.op ≠ .defer c)
    (hdf : ∀ a w, Qx .normal a w → a.defers = marks ds) (hbad : ∀ e a w, Qx e a w → e = .normal)
    (h : wpListIn (FW ro) 0 P ops Qx [o] ⟨tmps, marks ds⟩ w) (hK : ∀ v0 w', Qx .normal ⟨tmps.setIfInBounds d v0, marks ds⟩ w' → K ⟨tmps.setIfInBounds d v0, marks ds⟩ w') : wpOpIn (FW ro) 0 P ops Q i K ⟨tmps, marks ds⟩ w := by
  have key : ∀ v0 w', Qx .normal ((Act.mk tmps (marks ds)).put o.dst v0) w' → K ((Act.mk tmps (marks ds)).put o.dst v0) w' := by
    intro v0 w' hq
    rw [hd] at hq ⊢
    exact hK v0 w' hq
  unfold wpOpIn
  rw [hi]
  unfold wpListIn at h
  simp only
  split
  · rename_i hw
    rw [if_pos hw] at h
    refine ⟨h.1, ?_⟩
    have h2 := h.2
    rw [semAt_exec (FW ro).round _ _ hnd] at h2 ⊢
    generalize hr : (execOp (Act.mk tmps (marks ds)).eval o).run P w = res at *
    cases res with
    | ok x w' =>
      cases x <;> simp only [Oper.uponIn] at h2 ⊢
      case value v0 => exact key _ _ h2
      case skip => exact key _ _ h2
      case defer df =>
        exfalso
        have h4 := congrArg List.length (hdf _ _ h2)
        rw [hd] at h4
        simp [Act.put] at h4
      case enter f args => exact ⟨h2.1, CallsIn.mono h2.2 fun e w'' he => by
        cases e with
        | returned v0 => exact key _ _ he
        | panicked chain => exact absurd (hbad _ _ _ he) (by simp)
        | outgrown => obtain ⟨a, b, hh⟩ := he; exact absurd (hbad _ _ _ hh) (by simp)⟩
      case row rw' args => exact ⟨h2.1, RowsIn.mono h2.2 fun v0 w'' he => key _ _ he⟩
      case round l f tm asg bd => exact ⟨h2.1, RoundIn.mono h2.2 fun e w'' he => by
        cases e with
        | returned v0 => exact key _ _ he
        | panicked chain => exact absurd (hbad _ _ _ he) (by simp)
        | outgrown => obtain ⟨a, b, hh⟩ := he; exact absurd (hbad _ _ _ hh) (by simp)⟩
    | halt x w' =>
      cases x <;> simp only [Oper.uponIn] at h2 ⊢
      all_goals first | exact h2.elim | exact absurd (hbad _ _ _ h2) (by simp) | exact absurd (hbad _ _ _ h2.2) (by simp) | skip
  · rename_i hw
    rw [if_neg hw] at h
    exact ⟨h.1, key _ _ h.2⟩
/-- the same without an answer -/
theorem wpOp_of_postN {ops : Array Oper} {i : Nat} {o : Oper} {tmps : Array Value} {w : World} {Qx : Exit → Act → World → Prop} {K : Act → World → Prop} (hi : ops[i]? = some o) (hd : o.dst = none) (hnd : ∀ c, o.op ≠ .defer c)
    (hdf : ∀ a w, Qx .normal a w → a.defers = marks ds) (hbad : ∀ e a w, Qx e a w → e = .normal)
    (h : wpListIn (FW ro) 0 P ops Qx [o] ⟨tmps, marks ds⟩ w) (hK : ∀ w', Qx .normal ⟨tmps, marks ds⟩ w' → K ⟨tmps, marks ds⟩ w') : wpOpIn (FW ro) 0 P ops Q i K ⟨tmps, marks ds⟩ w := by
  have key : ∀ v0 w', Qx .normal ((Act.mk tmps (marks ds)).put o.dst v0) w' → K ((Act.mk tmps (marks ds)).put o.dst v0) w' := by
    intro v0 w' hq
    rw [hd] at hq ⊢
    exact hK w' hq
  unfold wpOpIn
  rw [hi]
  unfold wpListIn at h
  simp only
  split
  · rename_i hw
    rw [if_pos hw] at h
    refine ⟨h.1, ?_⟩
    have h2 := h.2
    rw [semAt_exec (FW ro).round _ _ hnd] at h2 ⊢
    generalize hr : (execOp (Act.mk tmps (marks ds)).eval o).run P w = res at *
    cases res with
    | ok x w' =>
      cases x <;> simp only [Oper.uponIn] at h2 ⊢
      case value v0 => exact key _ _ h2
      case skip => exact key _ _ h2
      case defer df =>
        exfalso
        have h4 := congrArg List.length (hdf _ _ h2)
        rw [hd] at h4
        simp [Act.put] at h4
      case enter f args => exact ⟨h2.1, CallsIn.mono h2.2 fun e w'' he => by
        cases e with
        | returned v0 => exact key _ _ he
        | panicked chain => exact absurd (hbad _ _ _ he) (by simp)
        | outgrown => obtain ⟨a, b, hh⟩ := he; exact absurd (hbad _ _ _ hh) (by simp)⟩
      case row rw' args => exact ⟨h2.1, RowsIn.mono h2.2 fun v0 w'' he => key _ _ he⟩
      case round l f tm asg bd => exact ⟨h2.1, RoundIn.mono h2.2 fun e w'' he => by
        cases e with
        | returned v0 => exact key _ _ he
        | panicked chain => exact absurd (hbad _ _ _ he) (by simp)
        | outgrown => obtain ⟨a, b, hh⟩ := he; exact absurd (hbad _ _ _ hh) (by simp)⟩
    | halt x w' =>
      cases x <;> simp only [Oper.uponIn] at h2 ⊢
      all_goals first | exact h2.elim | exact absurd (hbad _ _ _ h2) (by simp) | exact absurd (hbad _ _ _ h2.2) (by simp) | skip
  · rename_i hw
    rw [if_neg hw] at h
    exact ⟨h.1, key _ _ h.2⟩
theorem count_set {l : List Oper} {listed : Array Bool} {i : Nat} (hs : listed.size = l.length) (hil : i < l.length) (hnl : listed.getD i false = false) :
    ((List.range l.length).filter fun k => !(listed.setIfInBounds i true).getD k false).length < ((List.range l.length).filter fun k => !listed.getD k false).length := by
  have hsub : List.Sublist ((List.range l.length).filter fun k => !(listed.setIfInBounds i true).getD k false) (((List.range l.length).filter fun k => !listed.getD k false).erase i) := by
    have hnd : ((List.range l.length).filter fun k => !listed.getD k false).Nodup := List.Pairwise.filter _ List.nodup_range
    rw [hnd.erase_eq_filter, List.filter_filter]
    refine sub_of_eq ?_
    apply List.filter_congr
    intro k hk
    simp only [Array.getD_eq_getD_getElem?]
    by_cases hik : i = k
    · subst hik; simp [show i < listed.size by omega]
    · rw [Array.getElem?_setIfInBounds_ne hik]; simp [Ne.symm hik]
  have hmem : i ∈ (List.range l.length).filter fun k => !listed.getD k false := by simp only [List.mem_filter, List.mem_range]; exact ⟨hil, by rw [hnl]; rfl⟩
  have h5 := hsub.length_le
  rw [List.length_erase_of_mem hmem] at h5
  have := List.length_pos_of_mem hmem
  omega
theorem listed_set {listed : Array Bool} {i j : Nat} (h : (listed.setIfInBounds i true).getD j false = true) (hne : j ≠ i) : listed.getD j false = true := by
  simp only [Array.getD_eq_getD_getElem?] at h ⊢
  rwa [Array.getElem?_setIfInBounds_ne (fun e => hne e.symm)] at h
theorem listed_keep {listed : Array Bool} {i j : Nat} (h : listed.getD j false = true) : (listed.setIfInBounds i true).getD j false = true := by
  simp only [Array.getD_eq_getD_getElem?] at h ⊢
  by_cases hij : i = j
  · subst hij
    by_cases hlt : i < listed.size
    · simp [hlt]
    · simp [Array.getElem?_eq_none (Nat.le_of_not_lt hlt)] at h
  · rwa [Array.getElem?_setIfInBounds_ne hij]
structure DInv (P : Program) (ro : Option Nat) (n : Nat) (w0 : World) (l : List Oper) (g : Nat) (M : List Nat) (ds : List Nat) (S : SHeap) (r0 : Env) (V : Nat) (r : Env) (m : Mem) (val : Nat → Value) (listed : Array Bool) (tmps : Array Value) : Prop where
  env : ∀ t u, r.get t = some u → (∃ j o, j < g ∧ V.testBit j = true ∧ l[j]? = some o ∧ o.dst = some t ∧ val j = u) ∨ (r0.get t = some u ∧ ∀ j o, j < g → V.testBit j = true → l[j]? = some o → o.dst ≠ some t)
  vclosed : ∀ j o, j < g → l[j]? = some o → V.testBit j = true → readyV V o
  rcd : ∀ i o, i < g → l[i]? = some o → V.testBit i = true → listed.getD i false = false → ∃ d ri, o.dst = some d ∧ (∀ c, o.op ≠ .defer c) ∧
    (∀ t ∈ o.looksAt l.toArray, ∀ u, ri.get t = some u → (∃ j oj, j < g ∧ l[j]? = some oj ∧ oj.dst = some t ∧ val j = u ∧ ∃ e ∈ o.after, bind1 e = true ∧ e.on = j) ∨ (r0.get t = some u ∧ ∀ j oj, j < g → l[j]? = some oj → oj.dst = some t → (M.getD j 0).testBit i = true)) ∧
    ∀ m' F, m.le m' → WL P ro n w0 l.toArray (Q1 w0 d (val i) ds m' (S ++ F)) [o] (Env.sel (o.looksAt l.toArray) ri) ds m' (S ++ F)
  size : listed.size = l.length
  closed : Closed l listed
  sub : ∀ j, j < g → listed.getD j false = true → V.testBit j = true
  tail : ∀ j, g ≤ j → j < l.length → listed.getD j false = false
  tsize : tmps.size = n
  done : ∀ j o d, j < g → listed.getD j false = true → l[j]? = some o → o.dst = some d → tmps[d]? = some (val j)
  old : ∀ t u, r0.get t = some u → (∀ j o, j < g → listed.getD j false = true → l[j]? = some o → o.dst ≠ some t) → tmps[t]? = some u
section sound
variable {l : List Oper} {g : Nat} {M : List Nat} {S U : SHeap} {r0 : Env} {V : Nat} {val : Nat → Value} {listed : Array Bool} {tmps : Array Value} {w : World}
theorem DInv.vmask (ok : DrawOk l g M) (h : DInv P ro n w0 l g M ds S r0 V r m val listed tmps) {j i : Nat} {o : Oper} (hj : j < g) (ho : l[j]? = some o) (hr : readyV V o) (hb : (M.getD j 0).testBit i = true) : V.testBit i = true :=
  mask_in ok ok.le (p := fun j => V.testBit j = true) (fun j o hj ho hp => h.vclosed j o hj ho hp) j o hj ho hr i hb
/-- what is drawn and already calm -/
theorem DInv.deferred (ok : DrawOk l g M) (h : DInv P ro n w0 l g M ds S r0 V r m val listed tmps) (hsat : Sat w0 m (S ++ U) w) {i : Nat} {o : Oper} (hi : i < g) (ho : l[i]? = some o) (hV : V.testBit i = true) (hnl : listed.getD i false = false)
    (hw : ∀ e ∈ o.after, bind1 e = true → listed.getD e.on false = true) {K : Act → World → Prop}
    (hK : ∀ tmps' w', DInv P ro n w0 l g M ds S r0 V r m val (listed.setIfInBounds i true) tmps' → Sat w0 m (S ++ U) w' → K ⟨tmps', marks ds⟩ w') : wpOpIn (FW ro) 0 P l.toArray Q i K ⟨tmps, marks ds⟩ w := by
  obtain ⟨d, ri, hd, hnd, hri, hwl⟩ := h.rcd i o hi ho hV hnl
  refine wpOp_of_q1 (m := m) (H := S ++ U) (w0 := w0) (v := val i) (by simpa using ho) hd hnd ?_ ?_
  · refine hwl m U (Mem.le.refl _) tmps w ⟨h.tsize, fun t u ht => ?_⟩ hsat
    obtain ⟨hlook, hget⟩ := Env.sel_get ht
    rcases hri t hlook u hget with ⟨j, oj, hj, hoj, hdj, hv, e, he, hb, hon⟩ | ⟨h0, hno⟩
    · have := hw e he hb
      rw [hon] at this
      rw [h.done j oj t hj this hoj hdj, hv]
    · refine h.old t u h0 (fun j oj hj hjl hoj hdj => ?_)
      have := mask_listed ok h.closed j oj hoj (h.closed j oj hoj hjl) i (hno j oj hj hoj hdj)
      rw [hnl] at this; cases this
  · intro w' hsat' hdlt
    have hil := (List.getElem?_eq_some_iff.1 ho).1
    refine hK _ w' ⟨h.env, h.vclosed, ?_, by simp [h.size], closed_set h.closed ho hw, ?_, ?_, by simp [h.tsize], ?_, ?_⟩ hsat'
    · intro i' o' hi' ho' hV' hnl'
      refine h.rcd i' o' hi' ho' hV' ?_
      cases hq : listed.getD i' false with
      | false => rfl
      | true => rw [listed_keep hq] at hnl'; cases hnl'
    · intro j hj hjl
      by_cases e : j = i
      · subst e; exact hV
      · exact h.sub j hj (listed_set hjl e)
    · intro j hj hjl
      cases hq : (listed.setIfInBounds i true).getD j false with
      | false => rfl
      | true => have := listed_set hq (by omega); rw [h.tail j hj hjl] at this; cases this
    · intro j oj dj hj hjl hoj hdj
      by_cases e : j = i
      · subst e
        rw [ho] at hoj; cases hoj
        rw [hd] at hdj; cases hdj
        exact Array.getElem?_setIfInBounds_self_of_lt hdlt
      · have hne : d ≠ dj := fun e2 => by
          subst e2
          exact e (ok.dst j oj hj hoj _ hdj i o hi ho hd)
        rw [Array.getElem?_setIfInBounds_ne hne]
        exact h.done j oj dj hj (listed_set hjl e) hoj hdj
    · intro t u ht hno
      have hil' : (listed.setIfInBounds i true).getD i false = true := by simp [show i < listed.size by rw [h.size]; exact hil]
      have hne : d ≠ t := fun e => by subst e; exact hno i o hi hil' ho hd
      rw [Array.getElem?_setIfInBounds_ne hne]
      exact h.old t u ht (fun j oj hj hjl hoj => hno j oj hj (listed_keep hjl) hoj)
/-- one more is calm -/
theorem DInv.calm (ok : DrawOk l g M) (h : DInv P ro n w0 l g M ds S r0 V r m val listed tmps) {i d : Nat} {o : Oper} {v : Value} (hi : i < g) (ho : l[i]? = some o) (hV : V.testBit i = false) (hr : readyV V o) (hd : o.dst = some d) (hnd : ∀ c, o.op ≠ .defer c)
    (hwl : ∀ m' F, m.le m' → WL P ro n w0 l.toArray (Q1 w0 d v ds m' (S ++ F)) [o] (Env.sel (o.looksAt l.toArray) r) ds m' (S ++ F)) :
    DInv P ro n w0 l g M ds S r0 (V ||| 1 <<< i) ((d, v) :: r) m (fun j => if j = i then v else val j) listed tmps := by
  have hval : ∀ j, V.testBit j = true → (if j = i then v else val j) = val j := fun j hj => if_neg (fun e => by subst e; rw [hV] at hj; cases hj)
  refine ⟨?_, ?_, ?_, h.size, h.closed, fun j hj hjl => bit_keep (h.sub j hj hjl), h.tail, h.tsize, ?_, h.old⟩
  · intro t u ht
    simp only [Env.get] at ht
    cases hq : Nat.beq d t with
    | true =>
      have e := Nat.eq_of_beq_eq_true hq
      subst e
      simp [hq] at ht
      subst ht
      exact .inl ⟨i, o, hi, bit_self V i, ho, hd, if_pos rfl⟩
    | false =>
      simp [hq] at ht
      rcases h.env t u ht with ⟨j, oj, hj, hjV, hoj, hdj, hv⟩ | ⟨h0, hno⟩
      · exact .inl ⟨j, oj, hj, bit_keep hjV, hoj, hdj, by rw [hval j hjV]; exact hv⟩
      · refine .inr ⟨h0, fun j oj hj hjV hoj hdj => ?_⟩
        by_cases e : j = i
        · subst e
          rw [ho] at hoj; cases hoj
          rw [hd] at hdj; cases hdj
          exact Nat.ne_of_beq_eq_false hq rfl
        · exact hno j oj hj (bit_old hjV e) hoj hdj
  · intro j oj hj hoj hjV e he hb
    by_cases e2 : j = i
    · subst e2
      rw [ho] at hoj; cases hoj
      exact bit_keep (hr e he hb)
    · exact bit_keep (h.vclosed j oj hj hoj (bit_old hjV e2) e he hb)
  · intro i' o' hi' ho' hV' hnl'
    by_cases e : i' = i
    · subst e
      rw [ho] at ho'; cases ho'
      refine ⟨d, r, hd, hnd, ?_, ?_⟩
      · intro t hlook u hget
        rcases h.env t u hget with ⟨j, oj, hj, hjV, hoj, hdj, hv⟩ | ⟨h0, hno⟩
        · rcases ok.reads i' o hi ho t hlook j oj hj hoj hdj with ⟨_, e, he, hb, hon⟩ | ⟨_, hbit⟩
          · exact .inl ⟨j, oj, hj, hoj, hdj, by rw [hval j hjV]; exact hv, e, he, hb, hon⟩
          · have := h.vmask ok hj hoj (h.vclosed j oj hj hoj hjV) hbit
            rw [hV] at this; cases this
        · refine .inr ⟨h0, fun j oj hj hoj hdj => ?_⟩
          rcases ok.reads i' o hi ho t hlook j oj hj hoj hdj with ⟨_, e, he, hb, hon⟩ | ⟨_, hbit⟩
          · have := hr e he hb
            rw [hon] at this
            exact absurd hdj (hno j oj hj this hoj)
          · exact hbit
      · simp only [if_true]
        exact hwl
    · have hVo := bit_old hV' e
      obtain ⟨d', ri, k1, k2, k3, k4⟩ := h.rcd i' o' hi' ho' hVo hnl'
      refine ⟨d', ri, k1, k2, ?_, by rw [hval i' hVo]; exact k4⟩
      intro t hlook u hget
      rcases k3 t hlook u hget with ⟨j, oj, hj, hoj, hdj, hv, e', he', hb', hon'⟩ | h2
      · have hjV : V.testBit j = true := by have := h.vclosed i' o' hi' ho' hVo e' he' hb'; rwa [hon'] at this
        exact .inl ⟨j, oj, hj, hoj, hdj, by rw [hval j hjV]; exact hv, e', he', hb', hon'⟩
      · exact .inr h2
  · intro j oj dj hj hjl hoj hdj
    rw [hval j (h.sub j hj hjl)]
    exact h.done j oj dj hj hjl hoj hdj
/-- one acts -/
theorem DInv.act (ok : DrawOk l g M) (h : DInv P ro n w0 l g M ds S r0 V r m val listed tmps) {i d : Nat} {o : Oper} {v : Value} {m' : Mem} {B : SHeap} (hi : i < g) (ho : l[i]? = some o) (hV : V.testBit i = false)
    (hw : ∀ e ∈ o.after, bind1 e = true → listed.getD e.on false = true) (hd : o.dst = some d) (hm : m.le m') (hdlt : d < tmps.size) :
    DInv P ro n w0 l g M ds (S ++ B) r0 (V ||| 1 <<< i) ((d, v) :: r) m' (fun j => if j = i then v else val j) (listed.setIfInBounds i true) (tmps.setIfInBounds d v) := by
  have hval : ∀ j, V.testBit j = true → (if j = i then v else val j) = val j := fun j hj => if_neg (fun e => by subst e; rw [hV] at hj; cases hj)
  have hil := (List.getElem?_eq_some_iff.1 ho).1
  have hr : readyV V o := fun e he hb => h.sub e.on (by have := ok.down i o ho e he hb; omega) (hw e he hb)
  refine ⟨?_, ?_, ?_, by simp [h.size], closed_set h.closed ho hw, ?_, ?_, by simp [h.tsize], ?_, ?_⟩
  · intro t u ht
    simp only [Env.get] at ht
    cases hq : Nat.beq d t with
    | true =>
      have e := Nat.eq_of_beq_eq_true hq
      subst e
      simp [hq] at ht
      subst ht
      exact .inl ⟨i, o, hi, bit_self V i, ho, hd, if_pos rfl⟩
    | false =>
      simp [hq] at ht
      rcases h.env t u ht with ⟨j, oj, hj, hjV, hoj, hdj, hv⟩ | ⟨h0, hno⟩
      · exact .inl ⟨j, oj, hj, bit_keep hjV, hoj, hdj, by rw [hval j hjV]; exact hv⟩
      · refine .inr ⟨h0, fun j oj hj hjV hoj hdj => ?_⟩
        by_cases e : j = i
        · subst e
          rw [ho] at hoj; cases hoj
          rw [hd] at hdj; cases hdj
          exact Nat.ne_of_beq_eq_false hq rfl
        · exact hno j oj hj (bit_old hjV e) hoj hdj
  · intro j oj hj hoj hjV e he hb
    by_cases e2 : j = i
    · subst e2
      rw [ho] at hoj; cases hoj
      exact bit_keep (hr e he hb)
    · exact bit_keep (h.vclosed j oj hj hoj (bit_old hjV e2) e he hb)
  · intro i' o' hi' ho' hV' hnl'
    have e : i' ≠ i := fun e => by
      subst e
      have : (listed.setIfInBounds i' true).getD i' false = true := by simp [show i' < listed.size by rw [h.size]; exact hil]
      rw [this] at hnl'; cases hnl'
    have hVo := bit_old hV' e
    have hnl : listed.getD i' false = false := by
      cases hq : listed.getD i' false with
      | false => rfl
      | true => rw [listed_keep hq] at hnl'; cases hnl'
    obtain ⟨d', ri, k1, k2, k3, k4⟩ := h.rcd i' o' hi' ho' hVo hnl
    refine ⟨d', ri, k1, k2, ?_, by rw [hval i' hVo]; exact fun m'' F hle => by rw [List.append_assoc]; exact k4 m'' (B ++ F) (hm.trans hle)⟩
    intro t hlook u hget
    rcases k3 t hlook u hget with ⟨j, oj, hj, hoj, hdj, hv, e', he', hb', hon'⟩ | h2
    · have hjV : V.testBit j = true := by have := h.vclosed i' o' hi' ho' hVo e' he' hb'; rwa [hon'] at this
      exact .inl ⟨j, oj, hj, hoj, hdj, by rw [hval j hjV]; exact hv, e', he', hb', hon'⟩
    · exact .inr h2
  · intro j hj hjl
    by_cases e : j = i
    · subst e; exact bit_self V j
    · exact bit_keep (h.sub j hj (listed_set hjl e))
  · intro j hj hjl
    cases hq : (listed.setIfInBounds i true).getD j false with
    | false => rfl
    | true => have := listed_set hq (by omega); rw [h.tail j hj hjl] at this; cases this
  · intro j oj dj hj hjl hoj hdj
    by_cases e : j = i
    · subst e
      rw [ho] at hoj; cases hoj
      rw [hd] at hdj; cases hdj
      simp only [if_true]
      exact Array.getElem?_setIfInBounds_self_of_lt hdlt
    · have hjl' := listed_set hjl e
      have hne : d ≠ dj := fun e2 => by
        subst e2
        exact e (ok.dst j oj hj hoj _ hdj i o hi ho hd)
      rw [Array.getElem?_setIfInBounds_ne hne, hval j (h.sub j hj hjl')]
      exact h.done j oj dj hj hjl' hoj hdj
  · intro t u ht hno
    have hil' : (listed.setIfInBounds i true).getD i false = true := by simp [show i < listed.size by rw [h.size]; exact hil]
    have hne : d ≠ t := fun e => by subst e; exact hno i o hi hil' ho hd
    rw [Array.getElem?_setIfInBounds_ne hne]
    exact h.old t u ht (fun j oj hj hjl hoj => hno j oj hj (listed_keep hjl) hoj)
/-- one acts that has no answer -/
theorem DInv.actN (ok : DrawOk l g M) (h : DInv P ro n w0 l g M ds S r0 V r m val listed tmps) {i : Nat} {o : Oper} {m' : Mem} {B : SHeap} (hi : i < g) (ho : l[i]? = some o) (hV : V.testBit i = false)
    (hw : ∀ e ∈ o.after, bind1 e = true → listed.getD e.on false = true) (hd : o.dst = none) (hm : m.le m') :
    DInv P ro n w0 l g M ds (S ++ B) r0 (V ||| 1 <<< i) r m' val (listed.setIfInBounds i true) tmps := by
  have hil := (List.getElem?_eq_some_iff.1 ho).1
  have hr : readyV V o := fun e he hb => h.sub e.on (by have := ok.down i o ho e he hb; omega) (hw e he hb)
  refine ⟨?_, ?_, ?_, by simp [h.size], closed_set h.closed ho hw, ?_, ?_, h.tsize, ?_, ?_⟩
  · intro t u ht
    rcases h.env t u ht with ⟨j, oj, hj, hjV, hoj, hdj, hv⟩ | ⟨h0, hno⟩
    · exact .inl ⟨j, oj, hj, bit_keep hjV, hoj, hdj, hv⟩
    · refine .inr ⟨h0, fun j oj hj hjV hoj hdj => ?_⟩
      by_cases e : j = i
      · subst e
        rw [ho] at hoj; cases hoj
        rw [hd] at hdj; cases hdj
      · exact hno j oj hj (bit_old hjV e) hoj hdj
  · intro j oj hj hoj hjV e he hb
    by_cases e2 : j = i
    · subst e2
      rw [ho] at hoj; cases hoj
      exact bit_keep (hr e he hb)
    · exact bit_keep (h.vclosed j oj hj hoj (bit_old hjV e2) e he hb)
  · intro i' o' hi' ho' hV' hnl'
    have e : i' ≠ i := fun e => by
      subst e
      have : (listed.setIfInBounds i' true).getD i' false = true := by simp [show i' < listed.size by rw [h.size]; exact hil]
      rw [this] at hnl'; cases hnl'
    have hVo := bit_old hV' e
    have hnl : listed.getD i' false = false := by
      cases hq : listed.getD i' false with
      | false => rfl
      | true => rw [listed_keep hq] at hnl'; cases hnl'
    obtain ⟨d', ri, k1, k2, k3, k4⟩ := h.rcd i' o' hi' ho' hVo hnl
    exact ⟨d', ri, k1, k2, k3, fun m'' F hle => by rw [List.append_assoc]; exact k4 m'' (B ++ F) (hm.trans hle)⟩
  · intro j hj hjl
    by_cases e : j = i
    · subst e; exact bit_self V j
    · exact bit_keep (h.sub j hj (listed_set hjl e))
  · intro j hj hjl
    cases hq : (listed.setIfInBounds i true).getD j false with
    | false => rfl
    | true => have := listed_set hq (by omega); rw [h.tail j hj hjl] at this; cases this
  · intro j oj dj hj hjl hoj hdj
    by_cases e : j = i
    · subst e
      rw [ho] at hoj; cases hoj
      rw [hd] at hdj; cases hdj
    · exact h.done j oj dj hj (listed_set hjl e) hoj hdj
  · intro t u ht hno
    exact h.old t u ht (fun j oj hj hjl hoj => hno j oj hj (listed_keep hjl) hoj)
theorem we_any (ok : DrawOk l g M) {K : Env → Mem → SHeap → SHeap → Prop} (hK : ∀ r m S U, K r m S U → WL P ro n w0 l.toArray Q (l.drop g) r ds m (S ++ U)) :
    ∀ (fuel k : Nat) (V : Nat) (r : Env) (m : Mem) (S U : SHeap) (val : Nat → Value) (listed : Array Bool) (tmps : Array Value) (w : World),
      WE P ro n w0 l g ds K k V r m S U → DInv P ro n w0 l g M ds S r0 V r m val listed tmps → Sat w0 m (S ++ U) w →
      ((List.range l.length).filter fun i => !listed.getD i false).length ≤ fuel → wpAnyIn (FW ro) 0 P .any l.toArray Q fuel listed ⟨tmps, marks ds⟩ w := by
  -- where all is done
  have final : ∀ (fuel : Nat) (V : Nat) (r : Env) (m : Mem) (S U : SHeap) (val : Nat → Value) (listed : Array Bool) (tmps : Array Value) (w : World), K r m S U → DInv P ro n w0 l g M ds S r0 V r m val listed tmps → Sat w0 m (S ++ U) w →
      (∀ i, i < g → listed.getD i false = true) → (∀ i, i < g → V.testBit i = true) → ((List.range l.length).filter fun i => !listed.getD i false).length ≤ fuel → wpAnyIn (FW ro) 0 P .any l.toArray Q fuel listed ⟨tmps, marks ds⟩ w := by
    intro fuel V r m S U val listed tmps w hk hI hs hall hV hf
    refine tail_any ok fuel g listed _ _ hI.size (Nat.le_refl _) ok.le (fun i hi => ⟨fun h => ?_, hall i⟩) ?_ ?_
    · rcases Nat.lt_or_ge i g with hlt | hge
      · exact hlt
      · rw [hI.tail i hge hi] at h; cases h
    · have : (List.range l.length).filter (fun i => !listed.getD i false) = (List.range l.length).filter (fun i => decide (g ≤ i)) := by
        apply List.filter_congr
        intro i hi
        have hi' := List.mem_range.1 hi
        rcases Nat.lt_or_ge i g with hlt | hge
        · rw [hall i hlt]; simp; omega
        · rw [hI.tail i hge hi']; simp [hge]
      rw [this] at hf
      have hcnt : l.length - g ≤ ((List.range l.length).filter (fun i => decide (g ≤ i))).length := by
        have hsub : List.Sublist (List.range' g (l.length - g)) ((List.range l.length).filter (fun i => decide (g ≤ i))) := by
          obtain ⟨k, hk⟩ : ∃ k, l.length = g + k := ⟨l.length - g, by have := ok.le; omega⟩
          have e : List.range l.length = List.range' 0 g ++ List.range' g (l.length - g) := by
            rw [List.range_eq_range', hk, Nat.add_sub_cancel_left]
            have := @List.range'_append 0 g k 1
            simpa using this.symm
          rw [e, List.filter_append]
          refine List.Sublist.trans ?_ (List.sublist_append_right _ _)
          rw [List.filter_eq_self.2 (fun i hi => by have := List.mem_range'_1.1 hi; simp; omega)]
          exact List.Sublist.refl _
        have := hsub.length_le
        simpa using this
      omega
    · refine hK r m S U hk tmps w ⟨hI.tsize, fun t u ht => ?_⟩ hs
      rcases hI.env t u ht with ⟨j, o, hj, _, hoj, hdj, hv⟩ | ⟨h0, hno⟩
      · rw [hI.done j o t hj (hall j hj) hoj hdj, hv]
      · exact hI.old t u h0 (fun j o hj hjl hoj => hno j o hj (hV j hj) hoj)
  intro fuel
  induction fuel with
  | zero =>
    intro k
    induction k with
    | zero => intro V r m S U val listed tmps w h; exact h.elim
    | succ k ihk =>
      intro V r m S U val listed tmps w h hI hs hf
      have hall : ∀ i, i < l.length → listed.getD i false = true := by
        intro i hi
        cases hq : listed.getD i false with
        | true => rfl
        | false =>
          exfalso
          have : i ∈ (List.range l.length).filter fun i => !listed.getD i false := by simp only [List.mem_filter, List.mem_range]; exact ⟨hi, by rw [hq]; rfl⟩
          have h0 := List.eq_nil_of_length_eq_zero (Nat.le_zero.1 hf)
          rw [h0] at this; cases this
      have hV : ∀ i, i < g → V.testBit i = true := fun i hi => hI.sub i hi (hall i (by have := ok.le; omega))
      rcases h with ⟨_, hk⟩ | ⟨i, o, d, v, hi, _, hVi, _⟩ | ⟨⟨i, hi, hVi⟩, _⟩
      · exact final 0 V r m S U val listed tmps w hk hI hs (fun i hi => hall i (by have := ok.le; omega)) hV hf
      · rw [hV i hi] at hVi; cases hVi
      · rw [hV i hi] at hVi; cases hVi
  | succ fuel ihf =>
    intro k
    induction k with
    | zero => intro V r m S U val listed tmps w h; exact h.elim
    | succ k ihk =>
      intro V r m S U val listed tmps w h hI hs hf
      by_cases hcalm : ∃ i o d v, i < g ∧ l[i]? = some o ∧ V.testBit i = false ∧ readyV V o ∧ o.dst = some d ∧ (∀ c, o.op ≠ .defer c) ∧
          (∀ m' F, m.le m' → WL P ro n w0 l.toArray (Q1 w0 d v ds m' (S ++ F)) [o] (Env.sel (o.looksAt l.toArray) r) ds m' (S ++ F)) ∧ WE P ro n w0 l g ds K k (V ||| 1 <<< i) ((d, v) :: r) m S U
      · obtain ⟨i, o, d, v, hi, ho, hV, hr, hd, hnd, hwl, hwe⟩ := hcalm
        exact ihk _ _ m S U _ listed tmps w hwe (hI.calm ok hi ho hV hr hd hnd hwl) hs hf
      -- an operation that is calm already, or one that acts
      have hcount : ∀ i, i < l.length → listed.getD i false = false → ((List.range l.length).filter fun k => !(listed.setIfInBounds i true).getD k false).length ≤ fuel := fun i hi hnl => by
        have := count_set hI.size hi hnl; omega
      by_cases hfin : ∀ i, i < g → listed.getD i false = true
      · have hV : ∀ i, i < g → V.testBit i = true := fun i hi => hI.sub i hi (hfin i hi)
        rcases h with ⟨_, hk⟩ | h | ⟨⟨i, hi, hVi⟩, _⟩
        · exact final _ V r m S U val listed tmps w hk hI hs hfin hV hf
        · exact absurd h hcalm
        · rw [hV i hi] at hVi; cases hVi
      refine ⟨fun hr => absurd (fun i hi => nothing_ready ok hI.size hr i (by have := ok.le; omega)) hfin, fun i hir => ?_⟩
      obtain ⟨h1, o, h2, h3⟩ := ready_of hir
      have hil := (List.getElem?_eq_some_iff.1 h2).1
      have hig : i < g := by
        rcases Nat.lt_or_ge i g with hlt | hge
        · exact hlt
        · exfalso
          refine hfin (fun k hk => ?_)
          exact mask_listed ok hI.closed i o h2 h3 k (ok.all i hge hil k (by omega))
      have hnl : listed.getD i false = false := by
        have hsz := hI.size
        simp only [Array.getD_eq_getD_getElem?] at h1 ⊢
        rw [Array.getElem?_eq_getElem (by omega)] at h1 ⊢
        exact h1
      cases hVi : V.testBit i with
      | true =>
        refine hI.deferred ok hs hig h2 hVi hnl h3 (fun tmps' w' hI' hs' => ?_)
        exact ihf (k + 1) V r m S U val _ tmps' w' h hI' hs' (hcount i hil hnl)
      | false =>
        rcases h with ⟨hV, _⟩ | h | ⟨_, h⟩
        · rw [hV i hig] at hVi; cases hVi
        · exact absurd h hcalm
        · have hrV : readyV V o := fun e he hb => hI.sub e.on (by have := ok.down i o h2 e he hb; omega) (h3 e he hb)
          have henv : ∀ t u, (Env.sel (o.looksAt l.toArray) r).get t = some u → tmps[t]? = some u := by
            intro t u ht
            obtain ⟨hlook, hget⟩ := Env.sel_get ht
            rcases hI.env t u hget with ⟨j, oj, hj, hjV, hoj, hdj, hv⟩ | ⟨h0, hno⟩
            · rcases ok.reads i o hig h2 t hlook j oj hj hoj hdj with ⟨_, e, he, hb, hon⟩ | ⟨_, hbit⟩
              · have := h3 e he hb
                rw [hon] at this
                rw [hI.done j oj t hj this hoj hdj, hv]
              · have := hI.vmask ok hj hoj (hI.vclosed j oj hj hoj hjV) hbit
                rw [hVi] at this; cases this
            · exact hI.old t u h0 (fun j oj hj hjl hoj => hno j oj hj (hI.sub j hj hjl) hoj)
          rcases h i o hig h2 hVi hrV with ⟨d, hd, hnd, hwl⟩ | ⟨hd, hnd, hwl⟩
          · refine wpOp_of_post (by simpa using h2) hd hnd ?_ ?_ (hwl tmps w ⟨hI.tsize, henv⟩ hs) ?_
            · rintro a w ⟨v, m', B, U', _, hdf, _⟩; exact hdf
            · intro e a w hq
              cases e <;> first | rfl | exact hq.elim
            · rintro v0 w' ⟨v, m', B, U', hv, _, hm, hs', hwe⟩
              have hdlt : d < tmps.size := by
                rcases Nat.lt_or_ge d tmps.size with hlt | hge
                · exact hlt
                · simp only at hv
                  rw [Array.getElem?_eq_none (by simpa using hge)] at hv; cases hv
              have hv0 : v0 = v := by
                simp only at hv
                rw [Array.getElem?_setIfInBounds_self_of_lt hdlt] at hv
                exact Option.some.inj hv
              subst hv0
              exact ihf k _ _ m' (S ++ B) U' _ _ _ w' hwe (hI.act ok hig h2 hVi h3 hd hm hdlt) hs' (hcount i hil hnl)
          · refine wpOp_of_postN (by simpa using h2) hd hnd ?_ ?_ (hwl tmps w ⟨hI.tsize, henv⟩ hs) ?_
            · rintro a w ⟨m', B, U', hdf, _⟩; exact hdf
            · intro e a w hq
              cases e <;> first | rfl | exact hq.elim
            · rintro w' ⟨m', B, U', _, hm, hs', hwe⟩
              exact ihf k _ _ m' (S ++ B) U' _ _ _ w' hwe (hI.actN ok hig h2 hVi h3 hd hm) hs' (hcount i hil hnl)
end sound
def readyB (V : Nat) (o : Oper) : Bool := o.after.all fun e => !bind1 e || V.testBit e.on
theorem readyB_iff {V : Nat} {o : Oper} : readyB V o = true ↔ readyV V o := by
  unfold readyB readyV
  rw [Array.all_eq_true']
  constructor
  · intro h e he hb
    have := h e he
    simpa [hb] using this
  · intro h e he
    cases hb : bind1 e with
    | false => simp
    | true => simp [h e he hb]
/-- no operation but these may come next -/
def onlyB (l : List Oper) (g V : Nat) (js : List Nat) : Bool :=
  ((List.range g).any fun i => !V.testBit i) && ((List.range g).all fun i => V.testBit i || js.contains i || match l[i]? with | some o => !readyB V o | none => true)
theorem onlyB_ok {l : List Oper} {g V : Nat} {js : List Nat} (h : onlyB l g V js = true) : (∃ i, i < g ∧ V.testBit i = false) ∧ ∀ i o, i < g → l[i]? = some o → V.testBit i = false → readyV V o → i ∈ js := by
  unfold onlyB at h
  rw [Bool.and_eq_true] at h
  constructor
  · obtain ⟨i, hi, hV⟩ := List.any_eq_true.1 h.1
    exact ⟨i, List.mem_range.1 hi, by simpa using hV⟩
  · intro i o hi ho hV hr
    have := List.all_eq_true.1 h.2 i (List.mem_range.2 hi)
    have hrb := readyB_iff.2 hr
    rw [ho, hV] at this
    simpa [hrb] using this
section build
variable {l : List Oper} {g : Nat} {S U : SHeap} {K : Env → Mem → SHeap → SHeap → Prop} {k V : Nat}
theorem WE.done (h : ((List.range g).all fun i => V.testBit i) = true) (hK : K r m S U) : WE P ro n w0 l g ds K (k + 1) V r m S U :=
  .inl ⟨fun i hi => List.all_eq_true.1 h i (List.mem_range.2 hi), hK⟩
theorem WE.calm (i : Nat) {o : Oper} {d : Nat} {v : Value} (hV : V.testBit i = false) (hi : Nat.blt i g = true) (ho : l[i]? = some o) (hr : readyB V o = true) (hd : o.dst = some d) (hnd : ∀ c, o.op ≠ .defer c)
    (hwl : ∀ m' F, m.le m' → WL P ro n w0 l.toArray (Q1 w0 d v ds m' (S ++ F)) [o] (Env.sel (o.looksAt l.toArray) r) ds m' (S ++ F))
    (h : WE P ro n w0 l g ds K k (V ||| 1 <<< i) ((d, v) :: r) m S U) : WE P ro n w0 l g ds K (k + 1) V r m S U :=
  .inr (.inl ⟨i, o, d, v, by simpa [Nat.blt_eq] using hi, ho, hV, readyB_iff.1 hr, hd, hnd, hwl, h⟩)
/-- what one that acts owes -/
def Acts (P : Program) (ro : Option Nat) (n : Nat) (w0 : World) (l : List Oper) (g : Nat) (ds : List Nat) (K : Env → Mem → SHeap → SHeap → Prop) (k V : Nat) (r : Env) (m : Mem) (S U : SHeap) (i : Nat) : Prop :=
  ∃ o d, l[i]? = some o ∧ o.dst = some d ∧ (∀ c, o.op ≠ .defer c) ∧
    WL P ro n w0 l.toArray (QE w0 d ds S m fun v m' S' U' => WE P ro n w0 l g ds K k (V ||| 1 <<< i) ((d, v) :: r) m' S' U') [o] (Env.sel (o.looksAt l.toArray) r) ds m (S ++ U)
theorem WE.acts (js : List Nat) (h : onlyB l g V js = true) (hj : ∀ i ∈ js, Acts P ro n w0 l g ds K k V r m S U i) : WE P ro n w0 l g ds K (k + 1) V r m S U := by
  obtain ⟨h1, h2⟩ := onlyB_ok h
  refine .inr (.inr ⟨h1, fun i o hi ho hV hr => ?_⟩)
  obtain ⟨o', d, ho', hd, hnd, hwl⟩ := hj i (h2 i o hi ho hV hr)
  rw [ho] at ho'; cases ho'
  exact .inl ⟨d, hd, hnd, hwl⟩
/-- a store comes next -/
theorem WE.act0 (i : Nat) {o : Oper} (h : onlyB l g V [i] = true) (ho : l[i]? = some o) (hd : o.dst = none) (hnd : ∀ c, o.op ≠ .defer c)
    (hwl : WL P ro n w0 l.toArray (QN w0 ds S m fun m' S' U' => WE P ro n w0 l g ds K k (V ||| 1 <<< i) r m' S' U') [o] (Env.sel (o.looksAt l.toArray) r) ds m (S ++ U)) : WE P ro n w0 l g ds K (k + 1) V r m S U := by
  obtain ⟨h1, h2⟩ := onlyB_ok h
  refine .inr (.inr ⟨h1, fun i' o' hi ho' hV hr => ?_⟩)
  have := h2 i' o' hi ho' hV hr
  rw [List.mem_singleton] at this
  subst this
  rw [ho] at ho'; cases ho'
  exact .inr ⟨hd, hnd, hwl⟩
theorem WE.act1 (i : Nat) {o : Oper} {d : Nat} (h : onlyB l g V [i] = true) (ho : l[i]? = some o) (hd : o.dst = some d) (hnd : ∀ c, o.op ≠ .defer c)
    (hwl : WL P ro n w0 l.toArray (QE w0 d ds S m fun v m' S' U' => WE P ro n w0 l g ds K k (V ||| 1 <<< i) ((d, v) :: r) m' S' U') [o] (Env.sel (o.looksAt l.toArray) r) ds m (S ++ U)) : WE P ro n w0 l g ds K (k + 1) V r m S U :=
  .acts [i] h (fun j hj => by rw [List.mem_singleton] at hj; subst hj; exact ⟨o, d, ho, hd, hnd, hwl⟩)
theorem WE.act2 (i j : Nat) {o o' : Oper} {d d' : Nat} (h : onlyB l g V [i, j] = true) (ho : l[i]? = some o) (hd : o.dst = some d) (hnd : ∀ c, o.op ≠ .defer c) (ho' : l[j]? = some o') (hd' : o'.dst = some d') (hnd' : ∀ c, o'.op ≠ .defer c)
    (hwl : WL P ro n w0 l.toArray (QE w0 d ds S m fun v m' S' U' => WE P ro n w0 l g ds K k (V ||| 1 <<< i) ((d, v) :: r) m' S' U') [o] (Env.sel (o.looksAt l.toArray) r) ds m (S ++ U))
    (hwl' : WL P ro n w0 l.toArray (QE w0 d' ds S m fun v m' S' U' => WE P ro n w0 l g ds K k (V ||| 1 <<< j) ((d', v) :: r) m' S' U') [o'] (Env.sel (o'.looksAt l.toArray) r) ds m (S ++ U)) : WE P ro n w0 l g ds K (k + 1) V r m S U :=
  .acts [i, j] h (fun q hq => by
    rcases List.mem_cons.1 hq with rfl | hq
    · exact ⟨o, d, ho, hd, hnd, hwl⟩
    · rw [List.mem_singleton] at hq; subst hq; exact ⟨o', d', ho', hd', hnd', hwl'⟩)
end build
/-- a region that draws its order, where some operations act -/
theorem WC.drawE {id : Nat} {l : List Oper} (g : Nat) (S U : SHeap) (hm : P.follows .mixedOrders = true) (hc : drawC l g = true) (hS : ∀ w, Sat w0 m H w → Sat w0 m (S ++ U) w)
    (h : WE P ro n w0 l g ds (fun r' m' S' U' => WL P ro n w0 l.toArray Q (l.drop g) r' ds m' (S' ++ U')) 200 0 r m S U) : WC P ro n w0 (.region id l.toArray true) Q r ds m H := by
  intro tmps w ho hs
  have ok := drawC_ok hc
  refine wpIn_region_draw fun t => ?_
  simp only [Region.schedule, hm, Bool.true_or, if_true]
  refine wpAnyIn_sound _ _ _ _ _ ?_
  have hz : ∀ k, (Array.replicate l.length false).getD k false = false := by
    intro k
    simp only [Array.getD_eq_getD_getElem?]
    by_cases hk : k < l.length
    · simp [hk]
    · rw [Array.getElem?_eq_none (by simpa using hk)]; rfl
  have hsz : l.toArray.size = l.length := by simp
  rw [hsz]
  refine we_any (r0 := r) ok (fun _ _ _ _ h => h) l.length 200 0 r m S U (fun _ => undef) _ tmps _ h ?_ (hS _ hs.drew) ?_
  · refine ⟨fun t u ht => .inr ⟨ht, fun j o _ hj => ?_⟩, fun j o _ _ hj => ?_, fun i o _ _ hj => ?_, by simp, fun j o _ hj => ?_, fun j _ hj => ?_, fun j _ _ => hz j, ho.size, fun j o d _ hj => ?_, fun t u ht _ => ho.at_ t u ht⟩
    · simp at hj
    · simp at hj
    · simp at hj
    · rw [hz] at hj; cases hj
    · rw [hz] at hj; cases hj
    · rw [hz] at hj; cases hj
  · exact Nat.le_trans (List.length_filter_le _ _) (by simp)
end
end Go.Eng

/-
  A walk's engine: ways out of a block that meet again. No condition.
-/
set_option linter.all false
namespace Go.Eng
open Go Go.RowKit
section
variable {P : Program} {ro : Option Nat} {n : Nat} {w0 : World} {Q : Exit → Act → World → Prop} {r : Env} {ds : List Nat} {m : Mem} {H : SHeap}
def QJoinX (n : Nat) (w0 : World) (id : Nat) (I : Env → List Nat → Mem → SHeap → Prop) (Q : Exit → Act → World → Prop) : Exit → Act → World → Prop
  | .exit j, a, w => if j = id then ∃ r ds m H, I r ds m H ∧ r.ok n a.tmps ∧ a.defers = marks ds ∧ Sat w0 m H w else Q (.exit j) a w
  | e, a, w => Q e a w
theorem WC.joinX {c : Code} (id : Nat) (I : Env → List Nat → Mem → SHeap → Prop) (h1 : WC P ro n w0 c (QJoinX n w0 id I Q) r ds m H) (h2 : ∀ r ds m H, I r ds m H → WQ n w0 Q (.exit id) r ds m H) : WC P ro n w0 c Q r ds m H :=
  h1.of_post fun e a w h => by
    cases e with
    | exit j =>
      simp only [QJoinX] at h
      split at h
      · rename_i hj
        subst hj
        obtain ⟨r', ds', m', H', hI, ho, hd, hs⟩ := h
        have := h2 _ _ _ _ hI a.tmps w ho hs
        rw [← hd] at this
        exact this
      · exact h
    | _ => exact h
theorem WQ.joinX {id : Nat} {I : Env → List Nat → Mem → SHeap → Prop} {r' : Env} {H' : SHeap} (hI : I r' ds m H') (hr : Env.Sub r' r) (hh : ∀ w, Sat w0 m H w → Sat w0 m H' w) : WQ n w0 (QJoinX n w0 id I Q) (.exit id) r ds m H :=
  fun tmps w ho hs => by
    simp only [QJoinX, if_true]
    exact ⟨r', ds, m, H', hI, hr.ok ho, rfl, hh w hs⟩
attribute [irreducible] QJoinX
end
end Go.Eng

/-
  A walk's engine: all that is calm at once. No condition.
-/
set_option linter.all false
namespace Go.Eng
open Go Go.RowKit
section
variable {P : Program} {ro : Option Nat} {n : Nat} {w0 : World} {r : Env} {ds : List Nat} {m : Mem} {l : List Oper} {g : Nat} {S U : SHeap} {K : Env → Mem → SHeap → SHeap → Prop} {k V : Nat}
theorem wcal (i : Nat) {o : Oper} {d : Nat} {v : Value}
    (h : WE P ro n w0 l g ds K k (V ||| 1 <<< i) ((d, v) :: r) m S U) (hV : V.testBit i = false := by decide +kernel) (hi : Nat.blt i g = true := by exact rfl) (ho : l[i]? = some o := by exact rfl) (hr : readyB V o = true := by decide +kernel) (hd : o.dst = some d := by exact rfl) (hnd : ∀ c, o.op ≠ .defer c := by intro c h; cases h)
    (hwl : ∀ m' F, m.le m' → WL P ro n w0 l.toArray (Q1 w0 d v ds m' (S ++ F)) [o] (Env.sel (o.looksAt l.toArray) r) ds m' (S ++ F)) : WE P ro n w0 l g ds K (k + 1) V r m S U :=
  WE.calm i hV hi ho hr hd hnd hwl h
end
theorem cm0 {G G' : Prop} (next : G') (h : Bx G' → G := by intro zzn; (try (refine wcal 0 ?_ (hwl := by intro zm zF zle; ((repeat (refine sp ?_; intros)); exact WQ.q1 rfl)))); (try (refine wcal 1 ?_ (hwl := by intro zm zF zle; ((repeat (refine sp ?_; intros)); exact WQ.q1 rfl)))); (try (refine wcal 2 ?_ (hwl := by intro zm zF zle; ((repeat (refine sp ?_; intros)); exact WQ.q1 rfl)))); (try (refine wcal 3 ?_ (hwl := by intro zm zF zle; ((repeat (refine sp ?_; intros)); exact WQ.q1 rfl)))); (try (refine wcal 4 ?_ (hwl := by intro zm zF zle; ((repeat (refine sp ?_; intros)); exact WQ.q1 rfl)))); (try (refine wcal 5 ?_ (hwl := by intro zm zF zle; ((repeat (refine sp ?_; intros)); exact WQ.q1 rfl)))); (try (refine wcal 6 ?_ (hwl := by intro zm zF zle; ((repeat (refine sp ?_; intros)); exact WQ.q1 rfl)))); (try (refine wcal 7 ?_ (hwl := by intro zm zF zle; ((repeat (refine sp ?_; intros)); exact WQ.q1 rfl)))); (try (refine wcal 8 ?_ (hwl := by intro zm zF zle; ((repeat (refine sp ?_; intros)); exact WQ.q1 rfl)))); (try (refine wcal 9 ?_ (hwl := by intro zm zF zle; ((repeat (refine sp ?_; intros)); exact WQ.q1 rfl)))); (try (refine wcal 10 ?_ (hwl := by intro zm zF zle; ((repeat (refine sp ?_; intros)); exact WQ.q1 rfl)))); (try (refine wcal 11 ?_ (hwl := by intro zm zF zle; ((repeat (refine sp ?_; intros)); exact WQ.q1 rfl)))); (try (refine wcal 12 ?_ (hwl := by intro zm zF zle; ((repeat (refine sp ?_; intros)); exact WQ.q1 rfl)))); (try (refine wcal 13 ?_ (hwl := by intro zm zF zle; ((repeat (refine sp ?_; intros)); exact WQ.q1 rfl)))); (try (refine wcal 14 ?_ (hwl := by intro zm zF zle; ((repeat (refine sp ?_; intros)); exact WQ.q1 rfl)))); (try (refine wcal 15 ?_ (hwl := by intro zm zF zle; ((repeat (refine sp ?_; intros)); exact WQ.q1 rfl)))); (try (refine wcal 16 ?_ (hwl := by intro zm zF zle; ((repeat (refine sp ?_; intros)); exact WQ.q1 rfl)))); (try (refine wcal 17 ?_ (hwl := by intro zm zF zle; ((repeat (refine sp ?_; intros)); exact WQ.q1 rfl)))); (try (refine wcal 18 ?_ (hwl := by intro zm zF zle; ((repeat (refine sp ?_; intros)); exact WQ.q1 rfl)))); (try (refine wcal 19 ?_ (hwl := by intro zm zF zle; ((repeat (refine sp ?_; intros)); exact WQ.q1 rfl)))); (try (refine wcal 20 ?_ (hwl := by intro zm zF zle; ((repeat (refine sp ?_; intros)); exact WQ.q1 rfl)))); (try (refine wcal 21 ?_ (hwl := by intro zm zF zle; ((repeat (refine sp ?_; intros)); exact WQ.q1 rfl)))); (try (refine wcal 22 ?_ (hwl := by intro zm zF zle; ((repeat (refine sp ?_; intros)); exact WQ.q1 rfl)))); (try (refine wcal 23 ?_ (hwl := by intro zm zF zle; ((repeat (refine sp ?_; intros)); exact WQ.q1 rfl)))); (try (refine wcal 24 ?_ (hwl := by intro zm zF zle; ((repeat (refine sp ?_; intros)); exact WQ.q1 rfl)))); (try (refine wcal 25 ?_ (hwl := by intro zm zF zle; ((repeat (refine sp ?_; intros)); exact WQ.q1 rfl)))); (try (refine wcal 26 ?_ (hwl := by intro zm zF zle; ((repeat (refine sp ?_; intros)); exact WQ.q1 rfl)))); (try (refine wcal 27 ?_ (hwl := by intro zm zF zle; ((repeat (refine sp ?_; intros)); exact WQ.q1 rfl)))); (try (refine wcal 28 ?_ (hwl := by intro zm zF zle; ((repeat (refine sp ?_; intros)); exact WQ.q1 rfl)))); (try (refine wcal 29 ?_ (hwl := by intro zm zF zle; ((repeat (refine sp ?_; intros)); exact WQ.q1 rfl)))); (try (refine wcal 30 ?_ (hwl := by intro zm zF zle; ((repeat (refine sp ?_; intros)); exact WQ.q1 rfl)))); (try (refine wcal 31 ?_ (hwl := by intro zm zF zle; ((repeat (refine sp ?_; intros)); exact WQ.q1 rfl)))); (try (refine wcal 32 ?_ (hwl := by intro zm zF zle; ((repeat (refine sp ?_; intros)); exact WQ.q1 rfl)))); (try (refine wcal 33 ?_ (hwl := by intro zm zF zle; ((repeat (refine sp ?_; intros)); exact WQ.q1 rfl)))); (try (refine wcal 34 ?_ (hwl := by intro zm zF zle; ((repeat (refine sp ?_; intros)); exact WQ.q1 rfl)))); (try (refine wcal 35 ?_ (hwl := by intro zm zF zle; ((repeat (refine sp ?_; intros)); exact WQ.q1 rfl)))); (try (refine wcal 36 ?_ (hwl := by intro zm zF zle; ((repeat (refine sp ?_; intros)); exact WQ.q1 rfl)))); (try (refine wcal 37 ?_ (hwl := by intro zm zF zle; ((repeat (refine sp ?_; intros)); exact WQ.q1 rfl)))); (try (refine wcal 38 ?_ (hwl := by intro zm zF zle; ((repeat (refine sp ?_; intros)); exact WQ.q1 rfl)))); (try (refine wcal 39 ?_ (hwl := by intro zm zF zle; ((repeat (refine sp ?_; intros)); exact WQ.q1 rfl)))); (try (refine wcal 40 ?_ (hwl := by intro zm zF zle; ((repeat (refine sp ?_; intros)); exact WQ.q1 rfl)))); (try (refine wcal 41 ?_ (hwl := by intro zm zF zle; ((repeat (refine sp ?_; intros)); exact WQ.q1 rfl)))); exact zzn.out) : G := h ⟨next⟩
end Go.Eng

/-
  Plain facts for ropes: a node's tree; its text, size and depth; how deep a text's tree is. No condition.
-/
namespace Go.Eng
open Go
inductive Nd where
  | leaf (s : List UInt8)
  | joint (l r : Nd)
def Nd.text : Nd → List UInt8
  | .leaf s => s
  | .joint l r => l.text ++ r.text
def Nd.size (x : Nd) : Nat := x.text.length
def Nd.deep : Nd → Nat
  | .leaf _ => 0
  | .joint l r => max l.deep r.deep + 1
def Nd.Ok : Nd → Prop
  | .leaf s => 1 ≤ s.length ∧ s.length ≤ 1024
  | .joint l r => l.Ok ∧ r.Ok
def Nd.parts : Nd → List (List UInt8)
  | .leaf s => [s]
  | .joint l r => l.parts ++ r.parts
theorem Nd.size_leaf (s : List UInt8) : (Nd.leaf s).size = s.length := rfl
theorem Nd.size_joint (l r : Nd) : (Nd.joint l r).size = l.size + r.size := by simp [Nd.size, Nd.text]
theorem Nd.deep_lt : ∀ {x : Nd}, x.Ok → x.deep < x.size
  | .leaf s, h => by have := h.1; simp only [Nd.deep, Nd.size_leaf]; omega
  | .joint l r, h => by
    have h1 := Nd.deep_lt h.1; have h2 := Nd.deep_lt h.2
    simp only [Nd.deep, Nd.size_joint]; omega
theorem Nd.size_pos {x : Nd} (h : x.Ok) : 1 ≤ x.size := by have := Nd.deep_lt h; omega
theorem Nd.joint_of_deep {x : Nd} (h : 1 ≤ x.deep) : ∃ l r, x = .joint l r := by
  cases x with
  | leaf s => simp [Nd.deep] at h
  | joint l r => exact ⟨l, r, rfl⟩
theorem Nd.parts_text : ∀ x : Nd, x.parts.flatten = x.text
  | .leaf s => by simp [Nd.parts, Nd.text]
  | .joint l r => by simp [Nd.parts, Nd.text, Nd.parts_text l, Nd.parts_text r]
theorem Nd.parts_ok : ∀ {x : Nd}, x.Ok → ∀ s ∈ x.parts, 1 ≤ s.length ∧ s.length ≤ 1024
  | .leaf s, h, t, ht => by simp [Nd.parts] at ht; subst ht; exact h
  | .joint l r, h, t, ht => by
    simp only [Nd.parts, List.mem_append] at ht
    exact ht.elim (Nd.parts_ok h.1 t) (Nd.parts_ok h.2 t)
/-- the depth of a text's tree, as made lays it -/
def dm (n : Nat) : Nat := if n ≤ 1024 then 0 else dm (n - n / 2) + 1
termination_by n
decreasing_by omega
theorem dm_small {n : Nat} (h : n ≤ 1024) : dm n = 0 := by rw [dm, if_pos h]
theorem dm_big {n : Nat} (h : 1024 < n) : dm n = dm (n - n / 2) + 1 := by rw [dm, if_neg (by omega)]
theorem dm_le_step (n : Nat) : dm n ≤ dm (n + 1) ∧ dm (n + 1) ≤ dm n + 1 := by
  induction n using Nat.strongRecOn with
  | _ n ih =>
    by_cases h : n + 1 ≤ 1024
    · rw [dm_small h, dm_small (by omega : n ≤ 1024)]; omega
    · rw [dm_big (by omega : 1024 < n + 1)]
      by_cases h' : n ≤ 1024
      · have e : n = 1024 := by omega
        subst e
        rw [dm_small (by omega : 1024 ≤ 1024), dm_small (by omega : 1024 + 1 - (1024 + 1) / 2 ≤ 1024)]; omega
      · rw [dm_big (by omega : 1024 < n)]
        rcases Nat.mod_two_eq_zero_or_one n with h2 | h2
        · have e : n + 1 - (n + 1) / 2 = (n - n / 2) + 1 := by omega
          rw [e]
          have := ih (n - n / 2) (by omega)
          omega
        · have e : n + 1 - (n + 1) / 2 = n - n / 2 := by omega
          rw [e]; omega
theorem dm_halves (n : Nat) : dm (n / 2) ≤ dm (n - n / 2) ∧ dm (n - n / 2) ≤ dm (n / 2) + 1 := by
  rcases Nat.mod_two_eq_zero_or_one n with h2 | h2
  · have e : n - n / 2 = n / 2 := by omega
    rw [e]; omega
  · have e : n - n / 2 = n / 2 + 1 := by omega
    rw [e]; exact dm_le_step _
theorem dm_pow : ∀ (k n : Nat), n ≤ 1024 * 2 ^ k → dm n ≤ k
  | 0, n, h => by rw [dm_small (by simpa using h)]; omega
  | k + 1, n, h => by
    by_cases h' : n ≤ 1024
    · rw [dm_small h']; omega
    · rw [dm_big (by omega)]
      have := dm_pow k (n - n / 2) (by rw [Nat.pow_succ] at h; omega)
      omega
/-- how many halvings lead to nothing -/
def bitsN (n : Nat) : Nat := if n = 0 then 0 else bitsN (n / 2) + 1
termination_by n
decreasing_by omega
theorem bitsN_zero : bitsN 0 = 0 := by rw [bitsN, if_pos rfl]
theorem bitsN_pos {n : Nat} (h : 0 < n) : bitsN n = bitsN (n / 2) + 1 := by rw [bitsN, if_neg (by omega)]
theorem bitsN_lt (n : Nat) : n < 2 ^ bitsN n := by
  induction n using Nat.strongRecOn with
  | _ n ih =>
    by_cases h : n = 0
    · subst h; rw [bitsN_zero]; decide
    · rw [bitsN_pos (by omega), Nat.pow_succ]
      have := ih (n / 2) (by omega)
      omega
theorem bitsN_le (n : Nat) : bitsN n ≤ n := by
  induction n using Nat.strongRecOn with
  | _ n ih =>
    by_cases h : n = 0
    · subst h; rw [bitsN_zero]; exact Nat.le_refl _
    · rw [bitsN_pos (by omega)]
      have := ih (n / 2) (by omega)
      omega
theorem dm_bits (n : Nat) : dm n ≤ bitsN n := dm_pow _ _ (by have := bitsN_lt n; omega)
end Go.Eng

/-
  A walk's engine: calls of function values that bear what they have caught. No condition.
-/
set_option linter.all false
namespace Go.Eng
open Go Go.RowKit
section
variable {P : Program} {ro : Option Nat} {n : Nat} {w0 : World} {Q : Exit → Act → World → Prop} {r : Env} {ds : List Nat} {m : Mem} {H : SHeap} {ops : Array Oper} {l : List Oper} {d : Nat} {ty : TypeId} {pos : String} {after : Array Edge}
theorem WL.callV {f : FuncId} {fn : Func} {c : Code} {x : Operand} {args : List Operand} {vs cs : List Value} {ts : Array TypeId} {Post : Value → Mem → SHeap → Prop}
    (hx : r.ev x = some (.func (.func f) #[] cs.toArray)) (hf : P.funcs[f]? = some fn) (hname : (fn.name == "runtime.NumGoroutine") = false) (hb : fn.body = some c)
    (hv : r.evs args = some vs) (hd : Nat.blt d n = true) (hs : Does P f (vs ++ cs).toArray w0 m H Post) (h : ∀ v m' H', Post v m' H' → WL P ro n w0 ops Q l ((d, v) :: r) ds m' H') :
    WL P ro n w0 ops Q (⟨some d, .call ⟨.value x, args.toArray, ts⟩, ty, pos, after, none⟩ :: l) r ds m H := by
  refine .enter (fun d' e => by cases e; simpa [Nat.blt_eq] using hd) (fun _ h => by cases h) (fun tmps w ho _ => ?_) hs h
  have e1 := ho.evs (marks ds) hv
  have e2 := ho.ev (ds := marks ds) hx
  have h1 : fn.name ≠ "runtime.NumGoroutine" := by simpa using hname
  have h2 : ∀ a : Array Value, (callFunc f a).run P w = .ok (.enter f a) w := fun a => by simp [callFunc, hf, h1, hb]
  simp only [execOp, resolve, Sem.run_bind, List.map_toArray, e1]
  simp [e2, Deferred.ofValue, invoke, h2, Result.andThen]
end
end Go.Eng

/-
  A walk's engine: values in interfaces: calls of their methods, type assertions. No condition.
-/
set_option linter.all false
namespace Go.Eng
open Go Go.RowKit
section
variable {P : Program} {ro : Option Nat} {n : Nat} {w0 : World} {Q : Exit → Act → World → Prop} {r : Env} {ds : List Nat} {m : Mem} {H : SHeap} {ops : Array Oper} {l : List Oper} {d : Nat} {ty : TypeId} {pos : String} {after : Array Edge}
/-- the function behind a type's method that is its own, and whether its receiver is a pointer -/
def ownMethod (P : Program) (t : TypeId) (name : String) : Option (FuncId × Bool) :=
  (P.info? t).bind fun i => (i.methods.find? (·.name == name)).bind fun mt => if mt.path.isEmpty then mt.func else none
def ownRecv (P : Program) (t : TypeId) (pr : Bool) : Bool :=
  match P.underlying t, pr with
  | some (.pointer _), true => true
  | some (.pointer _), false => false
  | some _, false => true
  | _, _ => false
theorem run_typeInfo {t : TypeId} {i : TypeInfo} {w : World} (h : P.info? t = some i) : (typeInfo t).run P w = .ok i w := by
  simp [typeInfo, h]
theorem run_receiver {t : TypeId} {v : Value} {pr : Bool} {o : Option String} {w : World} (h : ownRecv P t pr = true) : (receiverAt t (.val v) pr o).run P w = .ok v w := by
  unfold ownRecv at h
  cases hu : P.underlying t with
  | none => simp [hu] at h
  | some q =>
    simp only [receiverAt, Sem.run_bind, run_underlying hu, Result.andThen_ok]
    cases q <;> cases pr <;> simp_all [Place.get]
theorem run_method {t : TypeId} {v : Value} {name : String} {f : FuncId} {pr : Bool} {w : World} (k : Nat) (hm : ownMethod P t name = some (f, pr)) (hr : ownRecv P t pr = true) :
    (method (k + 1) t v name).run P w = .ok (f, v) w := by
  unfold ownMethod at hm
  cases hi : P.info? t with
  | none => simp [hi] at hm
  | some i =>
    simp only [hi, Option.bind_some] at hm
    cases hf : i.methods.find? (·.name == name) with
    | none => simp [hf] at hm
    | some mt =>
      simp only [hf, Option.bind_some] at hm
      split at hm
      · rename_i hp
        have hp' : mt.path.toList = [] := by simpa using hp
        unfold method
        simp only [Sem.run_bind, run_typeInfo hi, Result.andThen_ok, hf, hp', follow, Sem.run_pure, hm, run_receiver hr]
      · cases hm
theorem WL.invk {recv : Operand} {name : String} {args : List Operand} {vs : List Value} {ts : Array TypeId} {t : TypeId} {v : Value} {f : FuncId} {pr : Bool} {fn : Func} {c : Code} {Post : Value → Mem → SHeap → Prop}
    (hx : r.ev recv = some (.iface t v)) (hm : ownMethod P t name = some (f, pr)) (hr : ownRecv P t pr = true)
    (hf : P.funcs[f]? = some fn) (hname : (fn.name == "runtime.NumGoroutine") = false) (hb : fn.body = some c)
    (hv : r.evs args = some vs) (hd : Nat.blt d n = true) (hs : Does P f (v :: vs).toArray w0 m H Post) (h : ∀ u m' H', Post u m' H' → WL P ro n w0 ops Q l ((d, u) :: r) ds m' H') :
    WL P ro n w0 ops Q (⟨some d, .call ⟨.invoke recv name, args.toArray, ts⟩, ty, pos, after, none⟩ :: l) r ds m H := by
  refine .enter (fun d' e => by cases e; simpa [Nat.blt_eq] using hd) (fun _ h => by cases h) (fun tmps w ho _ => ?_) hs h
  have e1 := ho.evs (marks ds) hv
  have e2 := ho.ev (ds := marks ds) hx
  have h1 : fn.name ≠ "runtime.NumGoroutine" := by simpa using hname
  have h2 : ∀ a : Array Value, (callFunc f a).run P w = .ok (.enter f a) w := fun a => by simp [callFunc, hf, h1, hb]
  have h5 : 1 ≤ Made.depth := by decide
  have h3 : ∃ k, P.types.size + Made.depth = k + 1 := ⟨P.types.size + (Made.depth - 1), by omega⟩
  obtain ⟨k, hk⟩ := h3
  have h4 : (callMethod (.iface t v) name vs.toArray).run P w = .ok (.enter f (v :: vs).toArray) w := by
    simp [callMethod, hk, run_method k hm hr, h2]
  have e3 : (#[Value.iface t v] ++ vs.toArray).extract 1 (#[Value.iface t v] ++ vs.toArray).size = vs.toArray := by simp
  simp only [execOp, resolve, Sem.run_bind, List.map_toArray, e1, e2]
  simp [Go.invoke, h4, Result.andThen]
def notIface (P : Program) (t : TypeId) : Bool := (P.underlying t).any (fun d => match d with | .interface _ => false | _ => true)
theorem WL.assertYes {x : Operand} {xt t : TypeId} {v : Value} (hx : r.ev x = some (.iface t v)) (hn : notIface P t = true) (hd : Nat.blt d n = true)
    (h : WL P ro n w0 ops Q l ((d, .tuple #[v, .bool true]) :: r) ds m H) : WL P ro n w0 ops Q (⟨some d, .typeAssert x xt t true, ty, pos, after, none⟩ :: l) r ds m H :=
  .val hd (fun _ h => by cases h) (fun tmps w ho _ => by
    unfold notIface at hn
    cases hu : P.underlying t with
    | none => simp [hu] at hn
    | some q =>
      simp only [execOp, Instr.typeAssert, Sem.run_bind, run_underlying hu, Result.andThen_ok, ho.ev hx]
      cases q <;> simp_all) h
theorem WL.assertIs {x : Operand} {xt t : TypeId} {v : Value} (hx : r.ev x = some (.iface t v)) (hn : notIface P t = true) (hd : Nat.blt d n = true)
    (h : WL P ro n w0 ops Q l ((d, v) :: r) ds m H) : WL P ro n w0 ops Q (⟨some d, .typeAssert x xt t false, ty, pos, after, none⟩ :: l) r ds m H :=
  .val hd (fun _ h => by cases h) (fun tmps w ho _ => by
    unfold notIface at hn
    cases hu : P.underlying t with
    | none => simp [hu] at hn
    | some q =>
      simp only [execOp, Instr.typeAssert, Sem.run_bind, run_underlying hu, Result.andThen_ok, ho.ev hx]
      cases q <;> simp_all) h
theorem WL.assertNo {x : Operand} {xt t t' : TypeId} {v z : Value} (hx : r.ev x = some (.iface t' v)) (hne : Nat.beq t' t = false) (hn : notIface P t = true) (hz : ∀ w, (zeroValue t).run P w = .ok z w) (hd : Nat.blt d n = true)
    (h : WL P ro n w0 ops Q l ((d, .tuple #[z, .bool false]) :: r) ds m H) : WL P ro n w0 ops Q (⟨some d, .typeAssert x xt t true, ty, pos, after, none⟩ :: l) r ds m H :=
  .val hd (fun _ h => by cases h) (fun tmps w ho _ => by
    unfold notIface at hn
    have ne : t' ≠ t := Nat.ne_of_beq_eq_false hne
    cases hu : P.underlying t with
    | none => simp [hu] at hn
    | some q =>
      simp only [execOp, Instr.typeAssert, Sem.run_bind, run_underlying hu, Result.andThen_ok, ho.ev hx]
      cases q <;> simp_all) h
theorem WL.assertNil {x : Operand} {xt t : TypeId} {z : Value} (hx : r.ev x = some .nilIface) (hn : notIface P t = true) (hz : ∀ w, (zeroValue t).run P w = .ok z w) (hd : Nat.blt d n = true)
    (h : WL P ro n w0 ops Q l ((d, .tuple #[z, .bool false]) :: r) ds m H) : WL P ro n w0 ops Q (⟨some d, .typeAssert x xt t true, ty, pos, after, none⟩ :: l) r ds m H :=
  .val hd (fun _ h => by cases h) (fun tmps w ho _ => by
    unfold notIface at hn
    cases hu : P.underlying t with
    | none => simp [hu] at hn
    | some q =>
      simp only [execOp, Instr.typeAssert, Sem.run_bind, run_underlying hu, Result.andThen_ok, ho.ev hx]
      cases q <;> simp_all) h
end
end Go.Eng

/-
  A walk's engine: values in interfaces held against nil; values that may be called: a loop's yield, or a closure. No condition.
-/
set_option linter.all false
namespace Go.Eng
open Go Go.RowKit
section
variable {P : Program} {ro : Option Nat} {n : Nat} {w0 : World} {Q : Exit → Act → World → Prop} {r : Env} {ds : List Nat} {m : Mem} {H : SHeap} {ops : Array Oper} {l : List Oper} {d : Nat} {ty : TypeId} {pos : String} {after : Array Edge}
theorem WL.eqlNilI {t t' : TypeId} {x : Operand} {v : Value} {b : Bool} {ms : Array (String × TypeId)} (hx : r.ev x = some v) (hv : v = .nilIface ∧ b = true ∨ ∃ u z, v = .iface u z ∧ b = false) (hu : P.underlying t = some (.interface ms)) (hd : Nat.blt d n = true)
    (h : WL P ro n w0 ops Q l ((d, .bool b) :: r) ds m H) : WL P ro n w0 ops Q (⟨some d, .binOp .eql t x (.const .nilIface) t', ty, pos, after, none⟩ :: l) r ds m H :=
  .val hd (fun _ h => by cases h) (fun tmps w ho _ => by
    have e0 : (Act.mk tmps (marks ds)).eval (.const .nilIface) = .nilIface := rfl
    have e1 : (eqGuard .eql t x (.const .nilIface) v .nilIface) = pure () := by
      unfold eqGuard
      rcases hv with ⟨rfl, _⟩ | ⟨u, z, rfl, _⟩ <;> simp
    have h3 : ∀ e, (Op.equalIn (e + 1) t v .nilIface).run P w = .ok b w := fun e => by
      rcases hv with ⟨rfl, rfl⟩ | ⟨u, z, rfl, rfl⟩ <;> simp [Op.equalIn, run_underlying hu]
    have h4 := h3 9999
    simp [execOp, ho.ev hx, e0, e1, binOp, Op.equal, show Op.maxDepth = 9999 + 1 from rfl, h4]) h
theorem WQ.persist {e : Exit} {b : Nat} {o : Obj} {H1 : SHeap} (ho : Out (.blk b o) H H1) (h : ∀ m', m.le m' → m' b = some o → WQ n w0 Q e r ds m' H1) : WQ n w0 Q e r ds m H :=
  fun tmps w hok hs => by
    obtain ⟨h1, h2⟩ := (hs.perm ho.perm).persist
    exact h _ h2 (by simp [Mem.ins]) tmps w hok h1
end
/-- a contract, its heap seen otherwise -/
theorem Does.reheap {P : Program} {f : FuncId} {args : Array Value} {w0 : World} {m : Mem} {H Hb : SHeap} {Post Post' : Value → Mem → SHeap → Prop} (h : Does P f args w0 m H Post) (hin : ∀ w, Sat w0 m Hb w → Sat w0 m H w)
    (hout : ∀ v m' H', Post v m' H' → ∃ H'', Post' v m' H'' ∧ ∀ w, Sat w0 m' H' w → Sat w0 m' H'' w) : Does P f args w0 m Hb Post' :=
  fun w hs => (h w (hin w hs)).mono fun _ _ ⟨v, m', H', he, hP, hs'⟩ => by
    obtain ⟨H'', hP', hs''⟩ := hout v m' H' hP
    exact ⟨v, m', H'', he, hP', hs'' _ hs'⟩
theorem perm_mid2 (Hit : SHeap) (a b : Item) (H : SHeap) : List.Perm (Hit ++ (a :: b :: H)) (a :: b :: (Hit ++ H)) :=
  List.perm_middle.trans (List.Perm.cons _ List.perm_middle)
/-- a value that may be called in such a state: it hands back true, or false -/
def FnOK (P : Program) (w0 : World) (fv : Value) (vs : List Value) (m : Mem) (H : SHeap) (Jt Jf : Mem → SHeap → Prop) : Prop :=
  ∀ ⦃ro : Option Nat⦄ ⦃n : Nat⦄ ⦃Q : Exit → Act → World → Prop⦄ ⦃r : Env⦄ ⦃ds : List Nat⦄ ⦃ops : Array Oper⦄ ⦃l : List Oper⦄ ⦃d : Nat⦄ ⦃ty : TypeId⦄ ⦃pos : String⦄ ⦃after : Array Edge⦄ ⦃f : Operand⦄ ⦃args : List Operand⦄ ⦃ts : Array TypeId⦄,
    r.ev f = some fv → r.evs args = some vs → Nat.blt d n = true →
    (∀ m' H', Jt m' H' → WL P ro n w0 ops Q l ((d, .bool true) :: r) ds m' H') → (∀ m' H', Jf m' H' → WL P ro n w0 ops Q l ((d, .bool false) :: r) ds m' H') →
    WL P ro n w0 ops Q (⟨some d, .call ⟨.value f, args.toArray, ts⟩, ty, pos, after, none⟩ :: l) r ds m H
theorem FnOK.yield {P : Program} {w0 : World} {lp : Nat} {vs : List Value} {m : Mem} {H : SHeap} {Jt Jf : Mem → SHeap → Prop} (h : YieldOK P w0 lp vs.toArray m H Jt Jf) : FnOK P w0 (.func (.yield lp) #[] #[]) vs m H Jt Jf :=
  fun ro n Q r ds ops l d ty pos after f args ts hf hv hd ht hn => WL.yield hf hv hd h ht hn
theorem FnOK.clo {P : Program} {w0 : World} {g : FuncId} {fn : Func} {c : Code} {vs cs : List Value} {m : Mem} {H : SHeap} {Jt Jf : Mem → SHeap → Prop} (hf : P.funcs[g]? = some fn) (hname : (fn.name == "runtime.NumGoroutine") = false) (hb : fn.body = some c)
    (h : Does P g (vs ++ cs).toArray w0 m H (fun v m' H' => (v = .bool true ∧ Jt m' H') ∨ (v = .bool false ∧ Jf m' H'))) : FnOK P w0 (.func (.func g) #[] cs.toArray) vs m H Jt Jf :=
  fun ro n Q r ds ops l d ty pos after f args ts hx hv hd ht hn => WL.callV hx hf hname hb hv hd h (by
    rintro v m' H' (⟨rfl, hj⟩ | ⟨rfl, hj⟩)
    · exact ht _ _ hj
    · exact hn _ _ hj)
end Go.Eng

/-
  The walks of a rope's nodes, first part: how a node lies in memory; size, depth; two, part. No condition.
-/
namespace Go.Eng
/-- a node in memory -/
def NodeAt (TL TP TJ : TypeId) (m : Mem) : Nd → Value → Prop
  | .leaf s, v => v = .iface TL (.agg #[str s])
  | .joint l r, v => ∃ b vl vr, v = .iface TP (.pointer (some ⟨b, 0, none⟩)) ∧
      m b = some (.cells [vl, vr, .int .i64 ((l.size : Int) + (r.size : Int)), .int .i64 (max (l.deep : Int) (r.deep : Int) + 1)].toArray TJ (0, 0)) ∧ NodeAt TL TP TJ m l vl ∧ NodeAt TL TP TJ m r vr
theorem NodeAt.le {TL TP TJ : TypeId} {m m' : Mem} (h : m.le m') : ∀ {T : Nd} {v : Value}, NodeAt TL TP TJ m T v → NodeAt TL TP TJ m' T v
  | .leaf _, _, hn => hn
  | .joint _ _, _, ⟨b, vl, vr, h1, h2, h3, h4⟩ => ⟨b, vl, vr, h1, h _ _ h2, NodeAt.le h h3, NodeAt.le h h4⟩
theorem NodeAt.iface {TL TP TJ : TypeId} {m : Mem} {T : Nd} {v : Value} (h : NodeAt TL TP TJ m T v) : ∃ t x, v = .iface t x := by
  cases T with
  | leaf s => exact ⟨_, _, h⟩
  | joint l r => obtain ⟨b, vl, vr, h1, _⟩ := h; exact ⟨_, _, h1⟩
/-- a node, or none -/
def RootAt (TL TP TJ : TypeId) (m : Mem) : Option Nd → Value → Prop
  | none, v => v = .nilIface
  | some T, v => NodeAt TL TP TJ m T v
theorem RootAt.le {TL TP TJ : TypeId} {m m' : Mem} (h : m.le m') {o : Option Nd} {v : Value} (hn : RootAt TL TP TJ m o v) : RootAt TL TP TJ m' o v := by
  cases o with
  | none => exact hn
  | some T => exact NodeAt.le h hn
def rtxt : Option Nd → List UInt8
  | none => []
  | some T => T.text
def OkR : Option Nd → Prop
  | none => True
  | some T => T.Ok
end Go.Eng
namespace Go.Proofs.Ytljfncpecpkhhaa
open Go Go.Eng
set_option maxRecDepth 100000
set_option maxHeartbeats 4000000
set_option linter.all false
attribute [local irreducible] WL WC WQ QFun QLoop Does Q1 QRound QAssign Go.Addr.add
abbrev NAt := NodeAt 118 119 121
abbrev RAt := RootAt 118 119 121
theorem leafSize_any (s : List UInt8) (w0 : World) (m : Mem) (H : SHeap) : Does Try.prog 115 #[.agg #[str s]] w0 m H (Gives (.int .i64 (s.length : Int)) m H) := by
  refine Does.of_body (args := [.agg [str s].toArray]) Try.func115 rfl Try.ntmps115 rfl ?_
  (try (refine st ?_; intros))
  (refine q_fin0 ?_)
  exact Gives.mk rfl
theorem leafDepth_any (s : List UInt8) (w0 : World) (m : Mem) (H : SHeap) : Does Try.prog 114 #[.agg #[str s]] w0 m H (Gives (.int .i64 0) m H) := by
  refine Does.of_body (args := [.agg [str s].toArray]) Try.func114 rfl Try.ntmps114 rfl ?_
  (try (refine st ?_; intros))
  (refine q_fin0 ?_)
  exact Gives.mk rfl
theorem jointSize_any {b : Nat} {vl vr : Value} {z d : Int} (w0 : World) (m : Mem) (H : SHeap) (h : m b = some (.cells [vl, vr, .int .i64 z, .int .i64 d].toArray 121 (0, 0))) :
    Does Try.prog 117 #[.pointer (some ⟨b, 0, none⟩)] w0 m H (Gives (.int .i64 z) m H) := by
  refine Does.of_body (args := [.pointer (some ⟨b, 0, none⟩)]) Try.func117 rfl Try.ntmps117 rfl ?_
  (try (refine st ?_; intros))
  (refine q_fin0 ?_)
  exact Gives.mk rfl
theorem jointDepth_any {b : Nat} {vl vr : Value} {z d : Int} (w0 : World) (m : Mem) (H : SHeap) (h : m b = some (.cells [vl, vr, .int .i64 z, .int .i64 d].toArray 121 (0, 0))) :
    Does Try.prog 116 #[.pointer (some ⟨b, 0, none⟩)] w0 m H (Gives (.int .i64 d) m H) := by
  refine Does.of_body (args := [.pointer (some ⟨b, 0, none⟩)]) Try.func116 rfl Try.ntmps116 rfl ?_
  (try (refine st ?_; intros))
  (refine q_fin0 ?_)
  exact Gives.mk rfl
section
variable {ro : Option Nat} {n : Nat} {w0 : World} {Q : Exit → Act → World → Prop} {r : Env} {ds : List Nat} {m : Mem} {H : SHeap} {ops : Array Oper} {l : List Oper} {d : Nat} {ty : TypeId} {pos : String} {after : Array Edge}
theorem w_size {T : Nd} {x : Operand} {ts : Array TypeId} {v : Value} (hx : r.ev x = some v) (hT : NAt m T v) (hd : Nat.blt d n = true) (h : WL Try.prog ro n w0 ops Q l ((d, .int .i64 (T.size : Int)) :: r) ds m H) :
    WL Try.prog ro n w0 ops Q (⟨some d, .call ⟨.invoke x "canticle/rope.size", #[], ts⟩, ty, pos, after, none⟩ :: l) r ds m H := by
  cases T with
  | leaf s =>
    cases hT
    refine WL.invk (f := 115) (pr := false) (args := []) (vs := []) hx (by kernel_rfl) (by kernel_rfl) Try.func115 rfl rfl rfl hd (leafSize_any s w0 m H) ?_
    rintro u m' H' ⟨rfl, rfl, rfl⟩
    exact h
  | joint a b =>
    obtain ⟨q, vl, vr, rfl, h1, _⟩ := hT
    refine WL.invk (f := 117) (pr := true) (args := []) (vs := []) hx (by kernel_rfl) (by kernel_rfl) Try.func117 rfl rfl rfl hd (jointSize_any w0 m H h1) ?_
    rintro u m' H' ⟨rfl, rfl, rfl⟩
    rw [Nd.size_joint, Int.natCast_add] at h
    exact h
theorem w_depth {T : Nd} {x : Operand} {ts : Array TypeId} {v : Value} (hx : r.ev x = some v) (hT : NAt m T v) (hd : Nat.blt d n = true) (h : WL Try.prog ro n w0 ops Q l ((d, .int .i64 (T.deep : Int)) :: r) ds m H) :
    WL Try.prog ro n w0 ops Q (⟨some d, .call ⟨.invoke x "canticle/rope.depth", #[], ts⟩, ty, pos, after, none⟩ :: l) r ds m H := by
  cases T with
  | leaf s =>
    cases hT
    refine WL.invk (f := 114) (pr := false) (args := []) (vs := []) hx (by kernel_rfl) (by kernel_rfl) Try.func114 rfl rfl rfl hd (leafDepth_any s w0 m H) ?_
    rintro u m' H' ⟨rfl, rfl, rfl⟩
    exact h
  | joint a b =>
    obtain ⟨q, vl, vr, rfl, h1, _⟩ := hT
    refine WL.invk (f := 116) (pr := true) (args := []) (vs := []) hx (by kernel_rfl) (by kernel_rfl) Try.func116 rfl rfl rfl hd (jointDepth_any w0 m H h1) ?_
    rintro u m' H' ⟨rfl, rfl, rfl⟩
    have e : ((Nd.joint a b).deep : Int) = max (a.deep : Int) (b.deep : Int) + 1 := by simp only [Nd.deep]; omega
    rw [e] at h
    exact h
def isInv : Op → Bool
  | .call ⟨.invoke _ _, _, _⟩ => true
  | _ => false
theorem iInv {dst : Option Nat} {op : Op} (_hk : isInv op = true) (h : WL Try.prog ro n w0 ops Q (⟨dst, op, ty, pos, after, none⟩ :: l) r ds m H) : WL Try.prog ro n w0 ops Q (⟨dst, op, ty, pos, after, none⟩ :: l) r ds m H := h
end
theorem sq_O1_1 {G : Prop} (h : G := by (repeat (first | (refine sp ?_; (repeat intro zzc)) | (refine iInv rfl ?_; first | refine w_size rfl (by assumption) rfl ?_ | refine w_depth rfl (by assumption) rfl ?_))); exact WQ.q1 rfl) : G := h
theorem st_O1_1 {G G' : Prop} (next : G') (h : Bx G' → G := by intro zzn; (first | ((refine st ?_; (repeat intro zzc)); (try ((first | (refine iInv rfl ?_; first | refine w_size rfl (by assumption) rfl ?_ | refine w_depth rfl (by assumption) rfl ?_) | ((refine iDraw ?_; (first | refine WC.drawAll rfl (by decide +kernel) ?_ | refine WC.draw 1 rfl (by decide +kernel) ?_ | refine WC.draw 2 rfl (by decide +kernel) ?_ | refine WC.draw 3 rfl (by decide +kernel) ?_ | refine WC.draw 4 rfl (by decide +kernel) ?_ | refine WC.draw 5 rfl (by decide +kernel) ?_ | refine WC.draw 6 rfl (by decide +kernel) ?_ | refine WC.draw 7 rfl (by decide +kernel) ?_ | refine WC.draw 8 rfl (by decide +kernel) ?_ | refine WC.draw 9 rfl (by decide +kernel) ?_ | refine WC.draw 10 rfl (by decide +kernel) ?_ | refine WC.draw 11 rfl (by decide +kernel) ?_ | refine WC.draw 12 rfl (by decide +kernel) ?_ | refine WC.draw 13 rfl (by decide +kernel) ?_ | refine WC.draw 14 rfl (by decide +kernel) ?_ | refine WC.draw 15 rfl (by decide +kernel) ?_ | refine WC.draw 16 rfl (by decide +kernel) ?_ | refine WC.draw 17 rfl (by decide +kernel) ?_ | refine WC.draw 18 rfl (by decide +kernel) ?_ | refine WC.draw 19 rfl (by decide +kernel) ?_ | refine WC.draw 20 rfl (by decide +kernel) ?_ | refine WC.draw 21 rfl (by decide +kernel) ?_ | refine WC.draw 22 rfl (by decide +kernel) ?_ | refine WC.draw 23 rfl (by decide +kernel) ?_ | refine WC.draw 24 rfl (by decide +kernel) ?_)); (repeat (refine WD.cons rfl (fun c h => by cases h) sq_O1_1 ?_)); refine WD.nil ?_)); (try (refine st ?_; (repeat intro zzc)))))) | ((first | (refine iInv rfl ?_; first | refine w_size rfl (by assumption) rfl ?_ | refine w_depth rfl (by assumption) rfl ?_) | ((refine iDraw ?_; (first | refine WC.drawAll rfl (by decide +kernel) ?_ | refine WC.draw 1 rfl (by decide +kernel) ?_ | refine WC.draw 2 rfl (by decide +kernel) ?_ | refine WC.draw 3 rfl (by decide +kernel) ?_ | refine WC.draw 4 rfl (by decide +kernel) ?_ | refine WC.draw 5 rfl (by decide +kernel) ?_ | refine WC.draw 6 rfl (by decide +kernel) ?_ | refine WC.draw 7 rfl (by decide +kernel) ?_ | refine WC.draw 8 rfl (by decide +kernel) ?_ | refine WC.draw 9 rfl (by decide +kernel) ?_ | refine WC.draw 10 rfl (by decide +kernel) ?_ | refine WC.draw 11 rfl (by decide +kernel) ?_ | refine WC.draw 12 rfl (by decide +kernel) ?_ | refine WC.draw 13 rfl (by decide +kernel) ?_ | refine WC.draw 14 rfl (by decide +kernel) ?_ | refine WC.draw 15 rfl (by decide +kernel) ?_ | refine WC.draw 16 rfl (by decide +kernel) ?_ | refine WC.draw 17 rfl (by decide +kernel) ?_ | refine WC.draw 18 rfl (by decide +kernel) ?_ | refine WC.draw 19 rfl (by decide +kernel) ?_ | refine WC.draw 20 rfl (by decide +kernel) ?_ | refine WC.draw 21 rfl (by decide +kernel) ?_ | refine WC.draw 22 rfl (by decide +kernel) ?_ | refine WC.draw 23 rfl (by decide +kernel) ?_ | refine WC.draw 24 rfl (by decide +kernel) ?_)); (repeat (refine WD.cons rfl (fun c h => by cases h) sq_O1_1 ?_)); refine WD.nil ?_)); (try (refine st ?_; (repeat intro zzc))))); (repeat ((first | (refine iInv rfl ?_; first | refine w_size rfl (by assumption) rfl ?_ | refine w_depth rfl (by assumption) rfl ?_) | ((refine iDraw ?_; (first | refine WC.drawAll rfl (by decide +kernel) ?_ | refine WC.draw 1 rfl (by decide +kernel) ?_ | refine WC.draw 2 rfl (by decide +kernel) ?_ | refine WC.draw 3 rfl (by decide +kernel) ?_ | refine WC.draw 4 rfl (by decide +kernel) ?_ | refine WC.draw 5 rfl (by decide +kernel) ?_ | refine WC.draw 6 rfl (by decide +kernel) ?_ | refine WC.draw 7 rfl (by decide +kernel) ?_ | refine WC.draw 8 rfl (by decide +kernel) ?_ | refine WC.draw 9 rfl (by decide +kernel) ?_ | refine WC.draw 10 rfl (by decide +kernel) ?_ | refine WC.draw 11 rfl (by decide +kernel) ?_ | refine WC.draw 12 rfl (by decide +kernel) ?_ | refine WC.draw 13 rfl (by decide +kernel) ?_ | refine WC.draw 14 rfl (by decide +kernel) ?_ | refine WC.draw 15 rfl (by decide +kernel) ?_ | refine WC.draw 16 rfl (by decide +kernel) ?_ | refine WC.draw 17 rfl (by decide +kernel) ?_ | refine WC.draw 18 rfl (by decide +kernel) ?_ | refine WC.draw 19 rfl (by decide +kernel) ?_ | refine WC.draw 20 rfl (by decide +kernel) ?_ | refine WC.draw 21 rfl (by decide +kernel) ?_ | refine WC.draw 22 rfl (by decide +kernel) ?_ | refine WC.draw 23 rfl (by decide +kernel) ?_ | refine WC.draw 24 rfl (by decide +kernel) ?_)); (repeat (refine WD.cons rfl (fun c h => by cases h) sq_O1_1 ?_)); refine WD.nil ?_)); (try (refine st ?_; (repeat intro zzc))))); (repeat revert zzc); exact zzn.out) : G := h ⟨next⟩
theorem two_any {A B : Nd} {va vb : Value} (hA : A.Ok) (hB : B.Ok) (hs : A.size + B.size ≤ 1000000000) (w0 : World) (m : Mem) (H : SHeap) (ha : NAt m A va) (hb : NAt m B vb) :
    Does Try.prog 70 #[va, vb] w0 m H (fun v m' H' => m.le m' ∧ H' = H ∧ NAt m' (.joint A B) v) := by
  obtain ⟨ta, xa, rfl⟩ := ha.iface
  obtain ⟨tb, xb, rfl⟩ := hb.iface
  have da := Nd.deep_lt hA
  have db := Nd.deep_lt hB
  refine Does.of_body (args := [.iface ta xa, .iface tb xb]) Try.func70 rfl Try.ntmps70 rfl ?_
  (refine st_O1_1 ?_; intros; rename_i q)
  refine WQ.persist (b := q) (by (repeat (first | exact Out.here | apply Out.there))) ?_
  intro m' hle hq
  exact q_fin0 (H0 := H) ⟨hle, rfl, q, .iface ta xa, .iface tb xb, rfl, hq, ha.le hle, hb.le hle⟩ (hd := zpk)
theorem part_any {s : List UInt8} (hs : s.length ≤ 1024) (w0 : World) (m : Mem) (H : SHeap) :
    Does Try.prog 68 #[str s] w0 m H (fun v m' H' => m' = m ∧ H' = H ∧ ∃ o, RAt m o v ∧ OkR o ∧ rtxt o = s ∧ o = (if s = [] then none else some (.leaf s))) := by
  refine Does.of_body (args := [str s]) Try.func68 rfl Try.ntmps68 rfl ?_
  by_cases h : s = []
  · subst h
    (try (refine st_O1_1 ?_; intros))
    exact q_fin0 (H0 := H) ⟨rfl, rfl, none, rfl, trivial, rfl, rfl⟩ (hd := zpk)
  · (try (refine st_O1_1 ?_; intros))
    have hp : 1 ≤ s.length := List.length_pos_iff.2 h
    exact q_fin0 (H0 := H) ⟨rfl, rfl, some (.leaf s), rfl, ⟨hp, hs⟩, rfl, by rw [if_neg h]⟩ (hd := zpk)
end Go.Proofs.Ytljfncpecpkhhaa

/-
  A walk's engine: what package strings' Builder does beneath: pointers as package strings turns them, a library function that is told from outside, a row's bytes as a text. No condition.
-/
set_option linter.all false
namespace Go.Eng
open Go Go.RowKit
section
variable {P : Program} {ro : Option Nat} {n : Nat} {w0 : World} {Q : Exit → Act → World → Prop} {r : Env} {ds : List Nat} {m : Mem} {H : SHeap} {ops : Array Oper} {l : List Oper} {d : Nat} {ty : TypeId} {pos : String} {after : Array Edge}
def sizedB (P : Program) (t : TypeId) : Bool := (P.info? t).any fun j => j.size != 0
theorem sizedB_ok {t : TypeId} (h : sizedB P t = true) : ∃ j, P.info? t = some j ∧ j.size ≠ 0 := by
  unfold sizedB at h
  cases hi : P.info? t with
  | none => simp [hi] at h
  | some j => simp [hi] at h; exact ⟨j, rfl, h⟩
theorem shape_blk {b : Nat} {L : List Value} {T : TypeId} {fz : Nat × Nat} {w : World} (hm : Item.blk b (.cells L.toArray T fz) ∈ H) (hs : Sat w0 m H w) : w.shape? b = some (T, L.length) := by
  have h : w.heap[b]? = some (.cells L.toArray T fz) := hs.own _ hm
  simp [World.shape?, h]
theorem WL.toUnsafe {src dst t T : TypeId} {x : Operand} {b : Nat} {L : List Value} {fz : Nat × Nat} (hx : r.ev x = some (.pointer (some ⟨b, 0, none⟩))) (hm : Item.blk b (.cells L.toArray T fz) ∈ H) (hL : 0 < L.length)
    (hs : P.underlying src = some (.pointer t)) (hu : P.underlying dst = some .unsafePointer) (ht : sizedB P t = true) (hd : Nat.blt d n = true)
    (h : WL P ro n w0 ops Q l ((d, .pointer (some ⟨b, 0, none⟩)) :: r) ds m H) : WL P ro n w0 ops Q (⟨some d, .convert src dst x, ty, pos, after, none⟩ :: l) r ds m H :=
  .val hd (fun _ h => by cases h) (fun tmps w ho hsat => by
    obtain ⟨j, hj, hj0⟩ := sizedB_ok ht
    have := Lib.run_to_unsafe (P := P) w ⟨b, 0, none⟩ hs hu hj hj0 (shape_blk hm hsat) hL
    simp [execOp, ho.ev hx, this]) h
theorem WL.fromUnsafe {src dst t T : TypeId} {x : Operand} {b : Nat} {L : List Value} {fz : Nat × Nat} (hx : r.ev x = some (.pointer (some ⟨b, 0, none⟩))) (hm : Item.blk b (.cells L.toArray T fz) ∈ H) 
    (hs : P.underlying src = some .unsafePointer) (hu : P.underlying dst = some (.pointer t)) (ht : sizedB P t = true) (hl : liesAt P P.depth T (L.length / P.cellsOf T) 0 t 1 = true) (hd : Nat.blt d n = true)
    (h : WL P ro n w0 ops Q l ((d, .pointer (some ⟨b, 0, none⟩)) :: r) ds m H) : WL P ro n w0 ops Q (⟨some d, .convert src dst x, ty, pos, after, none⟩ :: l) r ds m H :=
  .val hd (fun _ h => by cases h) (fun tmps w ho hsat => by
    obtain ⟨j, hj, hj0⟩ := sizedB_ok ht
    have := Lib.run_from_unsafe (P := P) w ⟨b, 0, none⟩ hs hu hj (shape_blk hm hsat) hl
    simp [execOp, ho.ev hx, this]) h
theorem WL.extern {f : FuncId} {fn : Func} {e : Array Value → Sem Value} {args : List Operand} {vs : List Value} {ts : Array TypeId} {v : Value} (hf : P.funcs[f]? = some fn) (hname : (fn.name == "runtime.NumGoroutine") = false) (hb : fn.body.isNone = true)
    (hn : Extern.findNext fn = none) (he : Extern.find fn = some e) (hv : r.evs args = some vs) (hrun : ∀ w, (e vs.toArray).run P w = .ok v w) (hd : Nat.blt d n = true)
    (h : WL P ro n w0 ops Q l ((d, v) :: r) ds m H) : WL P ro n w0 ops Q (⟨some d, .call ⟨.value (.func f), args.toArray, ts⟩, ty, pos, after, none⟩ :: l) r ds m H :=
  .val hd (fun _ h => by cases h) (fun tmps w ho _ => by
    have e1 := ho.evs (marks ds) hv
    have h2 := run_callFunc_extern hf hname hb hn he vs.toArray w
    rw [hrun] at h2
    simp only [execOp, resolve, Sem.run_bind, List.map_toArray, e1]
    simp [Act.eval, Deferred.ofValue, Go.invoke, h2, Result.andThen]) h
theorem WL.neqSameP {t t' e : TypeId} {x y : Operand} {a : Addr} {j : TypeInfo} (hx : r.ev x = some (.pointer (some a))) (hy : r.ev y = some (.pointer (some a))) (hu : P.underlying t = some (.pointer e)) (hi : P.info? e = some j) (hd : Nat.blt d n = true)
    (h : WL P ro n w0 ops Q l ((d, .bool false) :: r) ds m H) : WL P ro n w0 ops Q (⟨some d, .binOp .neq t x y t', ty, pos, after, none⟩ :: l) r ds m H :=
  .val hd (fun _ h => by cases h) (fun tmps w ho _ => by
    have h1 := Lib.run_neq_ptr_same (P := P) w a hu hi
    have h2 : eqGuard .neq t x y (.pointer (some a)) (.pointer (some a)) = pure () := rfl
    simp [execOp, ho.ev hx, ho.ev hy, h2, h1]) h
theorem WL.sliceData {x : Operand} {a : Option Addr} {len cap : Nat} {ts : Array TypeId} (hx : r.ev x = some (.slice a len cap)) (hc : a = none ∨ 0 < cap) (hd : Nat.blt d n = true)
    (h : WL P ro n w0 ops Q l ((d, .pointer a) :: r) ds m H) : WL P ro n w0 ops Q (⟨some d, .call ⟨.builtin .unsafeSliceData, #[x], ts⟩, ty, pos, after, none⟩ :: l) r ds m H :=
  .val hd (fun _ h => by cases h) (fun tmps w ho _ => by
    have h1 : (Builtin.unsafeSliceData_ ts ty #[.slice a len cap]).run P w = .ok (.pointer a) w := by
      cases a with
      | none => rfl
      | some a =>
        have h0 : cap ≠ 0 := by
          rcases hc with h | h
          · cases h
          · omega
        exact Lib.run_unsafeSliceData_row w _ _ _ _ _ h0
    simp only [execOp, resolve, Go.invoke, Go.builtin, Sem.run_bind, Sem.run_pure, Result.andThen_ok, List.map_toArray, List.map_cons, List.map_nil, ho.ev hx]
    simp [h1]) h
def isSD : Op → Bool
  | .call ⟨.builtin .unsafeSliceData, _, _⟩ => true
  | _ => false
theorem iSD {dst : Option Nat} {op : Op} (_hk : isSD op = true) (h : WL P ro n w0 ops Q (⟨dst, op, ty, pos, after, none⟩ :: l) r ds m H) : WL P ro n w0 ops Q (⟨dst, op, ty, pos, after, none⟩ :: l) r ds m H := h
/-- a byte row's items -/
def bCs (s : List UInt8) : List (List Value) := s.map fun b => [Value.int .u8 (b.toNat : Int)]
theorem bCs_length (s : List UInt8) : (bCs s).length = s.length := by simp [bCs]
/-- a row's bytes as a text: the row is let go -/
theorem WL.strRow {pt it e : TypeId} {x y : Operand} {a : Option Addr} {cap : Nat} {s : List UInt8} {H1 : SHeap} (hx : r.ev x = some (.pointer a)) (hy : r.ev y = some (.int .i64 (s.length : Int))) (ho : Out (.row a cap e 1 (bCs s)) H H1)
    (hp : P.underlying pt = some (.pointer e)) (hc : Nat.beq (P.cellsOf e) 1 = true) (hl : s.length ≤ 9223372036854775807) (hd : Nat.blt d n = true)
    (h : WL P ro n w0 ops Q l ((d, str s) :: r) ds m H1) : WL P ro n w0 ops Q (⟨some d, .call ⟨.builtin .unsafeString, #[x, y], #[pt, it]⟩, ty, pos, after, none⟩ :: l) r ds m H := by
  refine .gen (fun v' m' H' => v' = str s ∧ m' = m ∧ H' = H1) hd (fun _ h => by cases h) (fun tmps w hok hs => ?_) (by rintro _ _ _ ⟨rfl, rfl, rfl⟩; exact h)
  have hs1 := hs.perm ho.perm
  by_cases h0 : s = []
  · subst h0
    refine ⟨str [], m, H1, w, ?_, hs1.drop, rfl, rfl, rfl⟩
    have h1 := Lib.run_unsafeString_none (P := P) w pt it ty a
    simp only [execOp, resolve, Go.invoke, Go.builtin, Sem.run_bind, Sem.run_pure, Result.andThen_ok, List.map_toArray, List.map_cons, List.map_nil, hok.ev hx, hok.ev hy]
    simp only [List.length_nil] at h1 ⊢
    simp [h1]
    rfl
  · have hpos : 0 < s.length := List.length_pos_iff.2 h0
    obtain ⟨a0, rfl⟩ := row_some hs1 List.mem_cons_self (by rw [bCs_length]; exact hpos)
    obtain ⟨arr, fz, h1, h2, h3, h4, h5, h6, h7, h8⟩ := hs1.own _ List.mem_cons_self
    have hcells := row_cells (w0 := w0) (m := m) (H := .row (some a0) cap e 1 (bCs s) :: H1) (a := a0) (cap := cap) (T := e) (s := s) List.mem_cons_self w hs1
    rw [bCs_length] at h4
    have hus := Lib.run_unsafeString_row (P := P) w pt it ty e hp (Nat.eq_of_beq_eq_true hc) a0.block arr.size (by simp [World.shape?, h2]) s h0 (by rw [h3]; omega) hl (by
      intro j x hx
      have := hcells j (.int .u8 x.toNat) (by simp [hx])
      rw [h1] at this
      exact this)
    rw [← h1] at hus
    have hblk := (Array.getElem?_eq_some_iff.1 h2).1
    have hz : (w.freeze a0 s.length).heap.size = w.heap.size := by unfold World.freeze; split <;> simp
    have hoth : ∀ b, b ≠ a0.block → (w.freeze a0 s.length).heap[b]? = w.heap[b]? := by
      intro b hb
      unfold World.freeze
      split
      · rfl
      · simp only [Array.getElem?_modify]
        rw [if_neg (fun h => hb h.symm)]
    obtain ⟨o, ho'⟩ : ∃ o, (w.freeze a0 s.length).heap[a0.block]? = some o := ⟨_, Array.getElem?_eq_getElem (by rw [hz]; exact hblk)⟩
    have hos : (w.freeze a0 s.length).os = w.os := by unfold World.freeze; split <;> rfl
    have hot : (w.freeze a0 s.length).tape = w.tape := by unfold World.freeze; split <;> rfl
    have hoo : (w.freeze a0 s.length).output = w.output := by unfold World.freeze; split <;> rfl
    have hs2 := hs1.turn (j := .blk a0.block o) hos hot hoo (Nat.le_of_eq hz.symm) (fun b _ hb => hoth b (by simpa [Item.foot] using hb)) ho' (fun b hb => .inl (by simpa [Item.foot] using hb)) (by simp [Item.foot])
    refine ⟨str s, m, H1, w.freeze a0 s.length, ?_, hs2.drop, rfl, rfl, rfl⟩
    simp only [execOp, resolve, Go.invoke, Go.builtin, Sem.run_bind, Sem.run_pure, Result.andThen_ok, List.map_toArray, List.map_cons, List.map_nil, hok.ev hx, hok.ev hy]
    simp [hus]
end
end Go.Eng

/-
  A walk's engine, nineteenth part: arrays by their address: elements, slices of them, and what is copied there. No condition.
-/
set_option linter.all false
namespace Go.Eng
open Go Go.RowKit
section
variable {P : Program} {ro : Option Nat} {n : Nat} {w0 : World} {Q : Exit → Act → World → Prop} {r : Env} {ds : List Nat} {m : Mem} {H : SHeap}
  {ops : Array Oper} {l : List Oper} {d : Nat} {ty : TypeId} {pos : String} {after : Array Edge} {t t' : TypeId} {x y : Operand}
theorem WL.slArrH {e : TypeId} {b o k sz q : Nat} {kh : IntKind} {hi : Operand} {j : Int} (hx : r.ev x = some (.pointer (some ⟨b, o, none⟩))) (hh : r.ev hi = some (.int kh j)) (hj : j = (q : Int)) (hu : P.underlying t = some (.array k e)) (hsz : sizeB P e = some sz)
    (hd : Nat.blt d n = true) (hb : q ≤ k) (h : WL P ro n w0 ops Q l ((d, .slice (some ⟨b, o, none⟩) q k) :: r) ds m H) :
    WL P ro n w0 ops Q (⟨some d, .slice t x none (some hi) none, ty, pos, after, none⟩ :: l) r ds m H :=
  .val hd (fun _ h => by cases h) (fun tmps w ho _ => by
    subst hj
    have e2 := bound_ok (P := P) (i := (q : Int)) (k := kh) (y := k) (by omega) (by omega) .sliceAlen w
    simp only [execOp, Option.map_some, Option.map_none, Sem.run_bind, ho.ev hx, ho.ev hh, Instr.sliceAt, run_underlying hu, Instr.sureAddr, Instr.sliceBounds, Sem.run_pure, Result.andThen_ok]
    simp [e2, Result.andThen, run_size hsz, add_none]) h
theorem WL.slArr {e : TypeId} {b o k sz : Nat} (hx : r.ev x = some (.pointer (some ⟨b, o, none⟩))) (hu : P.underlying t = some (.array k e)) (hsz : sizeB P e = some sz)
    (hd : Nat.blt d n = true) (h : WL P ro n w0 ops Q l ((d, .slice (some ⟨b, o, none⟩) k k) :: r) ds m H) :
    WL P ro n w0 ops Q (⟨some d, .slice t x none none none, ty, pos, after, none⟩ :: l) r ds m H :=
  .val hd (fun _ h => by cases h) (fun tmps w ho _ => by
    simp only [execOp, Option.map_some, Option.map_none, Sem.run_bind, ho.ev hx, Instr.sliceAt, run_underlying hu, Instr.sureAddr, Instr.sliceBounds, Sem.run_pure, Result.andThen_ok]
    simp [Result.andThen, run_size hsz, add_none]) h
/-- a text copied into an array -/
theorem WL.copyS {e tx : TypeId} {b o k cap : Nat} {s : List UInt8} {T : TypeId} {L L' : List Value} {H' : SHeap} (hx : r.ev x = some (.slice (some ⟨b, o, none⟩) k cap)) (hy : r.ev y = some (str s)) (hle : s.length ≤ k)
    (hu : P.underlying t = some (.slice e)) (hsz : sizeB P e = some 1) (hut : P.underlying tx = some .string) (hr : Repl (.blk b (.cells L.toArray T (0, 0))) (.blk b (.cells L'.toArray T (0, 0))) H H') (hl : o + s.length ≤ L.length)
    (hL : laid L o (s.map fun b => Value.int .u8 (b.toNat : Int)) = L') (hd : Nat.blt d n = true) (h : WL P ro n w0 ops Q l ((d, .int .i64 (s.length : Int)) :: r) ds m H') :
    WL P ro n w0 ops Q (⟨some d, .call ⟨.builtin .copy, #[x, y], #[t, tx]⟩, ty, pos, after, none⟩ :: l) r ds m H := by
  subst hL
  refine .gen (fun v m' H'' => v = .int .i64 (s.length : Int) ∧ m' = m ∧ H'' = H') hd (fun _ h => by cases h) (fun tmps w ho hs => ?_) (by rintro _ _ _ ⟨rfl, rfl, rfl⟩; exact h)
  obtain ⟨H1, p1, p2⟩ := hr.perm
  have hsrc := Source.str (P := P) (w0 := w0) (m := m) (H := H) hut s w hs
  obtain ⟨w', h1, h2⟩ := run_laid (P := P) (s.map fun b => Value.int .u8 (b.toNat : Int)) 0 o L H1 w (by simpa using hl) (.inl rfl) (List.all_eq_true.2 fun u hu => hsrc.one u hu) (hs.perm p1)
  refine ⟨_, m, H', w', ?_, h2.perm p2.symm, rfl, rfl, rfl⟩
  have hmin : Nat.min s.length k = s.length := Nat.min_eq_left hle
  have hrun : (Builtin.copy_ #[t, tx] ty #[.slice (some ⟨b, o, none⟩) k cap, str s]).run P w = .ok (.int .i64 (s.length : Int)) w' := by
    simp [Builtin.copy_, run_underlying hu, run_size hsz, hsrc.len, hmin, hsrc.cells, h1, goInt]
  simp only [execOp, resolve, invoke, builtin, Sem.run_bind, Sem.run_pure, Result.andThen_ok, List.map_toArray, List.map_cons, List.map_nil, ho.ev hx, ho.ev hy, hrun]
/-- an array's bytes as a text -/
theorem WL.bytesBlk {src dst e : TypeId} {b k cap : Nat} {T : TypeId} {fz : Nat × Nat} {L : List Value} {s : List UInt8} (hx : r.ev x = some (.slice (some ⟨b, 0, none⟩) k cap)) (hm : Item.blk b (.cells L.toArray T fz) ∈ H)
    (hL : L.take k = s.map fun b => Value.int .u8 (b.toNat : Int)) (hk : k = s.length) (hs1 : P.underlying src = some (.slice e)) (hs2 : P.underlying dst = some .string) (hs3 : P.underlying e = some (.int .u8)) (hsz : sizeB P e = some 1) (hd : Nat.blt d n = true)
    (h : WL P ro n w0 ops Q l ((d, str s) :: r) ds m H) : WL P ro n w0 ops Q (⟨some d, .convert src dst x, ty, pos, after, none⟩ :: l) r ds m H := by
  subst hk
  refine .bytesStr hx hs1 hs2 hs3 hsz (.inr ⟨_, _, rfl, fun w hs j v hj => ?_⟩) hd h
  rw [add_none]
  rw [← hL, List.getElem?_take] at hj
  split at hj
  · exact Cell.blk hm (by simpa using hj) w hs
  · cases hj
end
section
variable {P : Program} {ro : Option Nat} {n : Nat} {w0 : World} {Q : Exit → Act → World → Prop} {r : Env} {ds : List Nat} {m : Mem} {H : SHeap} {ops : Array Oper} {l : List Oper}
theorem WL.heap {H' : SHeap} (hh : ∀ w, Sat w0 m H w → Sat w0 m H' w) (h : WL P ro n w0 ops Q l r ds m H') : WL P ro n w0 ops Q l r ds m H := fun tmps w ho hs => h tmps w ho (hh w hs)
end
theorem all_cons {α : Type} {p : α → Prop} {a : α} {l : List α} (h : p a) (k : ∀ x ∈ l, p x) : ∀ x ∈ a :: l, p x := fun x hx => by
  rcases List.mem_cons.1 hx with rfl | hx
  · exact h
  · exact k x hx
theorem Acts.mk {P : Program} {ro : Option Nat} {n : Nat} {w0 : World} {l : List Oper} {g : Nat} {ds : List Nat} {K : Env → Mem → SHeap → SHeap → Prop} {k V : Nat} {r : Env} {m : Mem} {S U : SHeap} {i : Nat} {o : Oper} {d : Nat} (ho : l[i]? = some o) (hd : o.dst = some d) (hnd : ∀ c, o.op ≠ .defer c)
    (h : WL P ro n w0 l.toArray (QE w0 d ds S m fun v m' S' U' => WE P ro n w0 l g ds K k (V ||| 1 <<< i) ((d, v) :: r) m' S' U') [o] (Env.sel (o.looksAt l.toArray) r) ds m (S ++ U)) : Acts P ro n w0 l g ds K k V r m S U i := ⟨o, d, ho, hd, hnd, h⟩
end Go.Eng

/-
  The walks of a rope's nodes, second part: strings.Builder as textOf has it; a node's parts, one after the other; its text. No condition.
-/
namespace Go.Proofs.Ytljfncpecpkhhaa
open Go Go.Eng
set_option maxRecDepth 100000
set_option maxHeartbeats 4000000
set_option linter.all false
attribute [local irreducible] WL WC WQ QFun QLoop Does Q1 QRound QAssign Go.Addr.add
theorem extern_noEscape : Extern.find Try.f88 = some Extern.AbiNoEscape.same := by kernel_rfl
theorem copyCheck_any {b cap : Nat} {ao a : Option Addr} {t : List UInt8} (hao : ao = none ∨ ao = some ⟨b, 0, none⟩) (w0 : World) (m : Mem) (H : SHeap) :
    Does Try.prog 81 #[.pointer (some ⟨b, 0, none⟩)] w0 m (.blk b (.cells [.pointer ao, .slice a t.length cap].toArray 101 (0, 0)) :: .row a cap 5 1 (bCs t) :: H) (fun v m' H' => m' = m ∧ H' = .blk b (.cells [.pointer (some ⟨b, 0, none⟩), .slice a t.length cap].toArray 101 (0, 0)) :: .row a cap 5 1 (bCs t) :: H) := by
  refine Does.of_body (args := [.pointer (some ⟨b, 0, none⟩)]) Try.func81 rfl Try.ntmps81 rfl ?_
  rcases hao with rfl | rfl
  · (try (refine st ?_; intros))
    refine WL.toUnsafe rfl zhs (by exact Nat.succ_pos _) rfl rfl (by kernel_rfl) rfl ?_
    (try (refine st ?_; intros))
    refine WL.extern (vs := [.pointer (some ⟨b, 0, none⟩)]) Try.func88 rfl rfl (by kernel_rfl) extern_noEscape rfl (fun _ => rfl) rfl ?_
    (try (refine st ?_; intros))
    refine WL.fromUnsafe rfl zhs rfl rfl (by kernel_rfl) (by kernel_rfl) rfl ?_
    (try (refine st ?_; intros))
    exact q_finNorm0 (H0 := .blk b (.cells [.pointer (some ⟨b, 0, none⟩), .slice a t.length cap].toArray 101 (0, 0)) :: .row a cap 5 1 (bCs t) :: H) ⟨rfl, rfl⟩ (hd := zpk)
  · (try (refine st ?_; intros))
    refine WL.neqSameP (j := Try.prog.types[101]) rfl rfl rfl (by kernel_rfl) rfl ?_
    (try (refine st ?_; intros))
    exact q_finNorm0 (H0 := .blk b (.cells [.pointer (some ⟨b, 0, none⟩), .slice a t.length cap].toArray 101 (0, 0)) :: .row a cap 5 1 (bCs t) :: H) ⟨rfl, rfl⟩ (hd := zpk)
theorem writeString_any {b cap : Nat} {ao a : Option Addr} {t s : List UInt8} (hao : ao = none ∨ ao = some ⟨b, 0, none⟩) (hl : t.length + s.length ≤ 140737488355328) (w0 : World) (m : Mem) (H : SHeap) :
    Does Try.prog 58 #[.pointer (some ⟨b, 0, none⟩), str s] w0 m (.blk b (.cells [.pointer ao, .slice a t.length cap].toArray 101 (0, 0)) :: .row a cap 5 1 (bCs t) :: H)
      (fun v m' H' => m' = m ∧ v = .tuple #[.int .i64 (s.length : Int), .nilIface] ∧ ∃ a' cap', H' = .blk b (.cells [.pointer (some ⟨b, 0, none⟩), .slice a' (t ++ s).length cap'].toArray 101 (0, 0)) :: .row a' cap' 5 1 (bCs (t ++ s)) :: H) := by
  refine Does.of_body (args := [.pointer (some ⟨b, 0, none⟩), str s]) Try.func58 rfl Try.ntmps58 rfl ?_
  have hbl := bCs_length t
  have e : bCs t ++ (s.map fun b => [Value.int .u8 (b.toNat : Int)]) = bCs (t ++ s) := by simp [bCs]
  (try (refine st ?_; intros))
  refine w_callF Try.func81 ?_ (hs := copyCheck_any hao _ _ _)
  rintro v m H1 ⟨rfl, rfl⟩
  (refine st ?_; intros; rename_i a2 cap2)
  rw [e, hbl, ← List.length_append]
  exact q_fin0 (H0 := .blk b (.cells [.pointer (some ⟨b, 0, none⟩), .slice a2 (t ++ s).length cap2].toArray 101 (0, 0)) :: .row a2 cap2 5 1 (bCs (t ++ s)) :: H) ⟨rfl, rfl, a2, cap2, rfl⟩ (hd := zpk)
theorem sq_O2_1 {G : Prop} (h : G := by (repeat (first | (refine sp ?_; (repeat intro zzc)) | (refine iSD rfl ?_; refine WL.sliceData rfl (by assumption) rfl ?_))); exact WQ.q1 rfl) : G := h
theorem cm_O2_1 {G G' : Prop} (next : G') (h : Bx G' → G := by intro zzn; (try (refine wcal 0 ?_ (hwl := by intro zm zF zle; exact sq_O2_1))); (try (refine wcal 1 ?_ (hwl := by intro zm zF zle; exact sq_O2_1))); (try (refine wcal 2 ?_ (hwl := by intro zm zF zle; exact sq_O2_1))); (try (refine wcal 3 ?_ (hwl := by intro zm zF zle; exact sq_O2_1))); (try (refine wcal 4 ?_ (hwl := by intro zm zF zle; exact sq_O2_1))); (try (refine wcal 5 ?_ (hwl := by intro zm zF zle; exact sq_O2_1))); (try (refine wcal 6 ?_ (hwl := by intro zm zF zle; exact sq_O2_1))); (try (refine wcal 7 ?_ (hwl := by intro zm zF zle; exact sq_O2_1))); (try (refine wcal 8 ?_ (hwl := by intro zm zF zle; exact sq_O2_1))); (try (refine wcal 9 ?_ (hwl := by intro zm zF zle; exact sq_O2_1))); (try (refine wcal 10 ?_ (hwl := by intro zm zF zle; exact sq_O2_1))); (try (refine wcal 11 ?_ (hwl := by intro zm zF zle; exact sq_O2_1))); (try (refine wcal 12 ?_ (hwl := by intro zm zF zle; exact sq_O2_1))); (try (refine wcal 13 ?_ (hwl := by intro zm zF zle; exact sq_O2_1))); (try (refine wcal 14 ?_ (hwl := by intro zm zF zle; exact sq_O2_1))); (try (refine wcal 15 ?_ (hwl := by intro zm zF zle; exact sq_O2_1))); (try (refine wcal 16 ?_ (hwl := by intro zm zF zle; exact sq_O2_1))); (try (refine wcal 17 ?_ (hwl := by intro zm zF zle; exact sq_O2_1))); (try (refine wcal 18 ?_ (hwl := by intro zm zF zle; exact sq_O2_1))); (try (refine wcal 19 ?_ (hwl := by intro zm zF zle; exact sq_O2_1))); (try (refine wcal 20 ?_ (hwl := by intro zm zF zle; exact sq_O2_1))); (try (refine wcal 21 ?_ (hwl := by intro zm zF zle; exact sq_O2_1))); (try (refine wcal 22 ?_ (hwl := by intro zm zF zle; exact sq_O2_1))); (try (refine wcal 23 ?_ (hwl := by intro zm zF zle; exact sq_O2_1))); (try (refine wcal 24 ?_ (hwl := by intro zm zF zle; exact sq_O2_1))); (try (refine wcal 25 ?_ (hwl := by intro zm zF zle; exact sq_O2_1))); (try (refine wcal 26 ?_ (hwl := by intro zm zF zle; exact sq_O2_1))); (try (refine wcal 27 ?_ (hwl := by intro zm zF zle; exact sq_O2_1))); (try (refine wcal 28 ?_ (hwl := by intro zm zF zle; exact sq_O2_1))); (try (refine wcal 29 ?_ (hwl := by intro zm zF zle; exact sq_O2_1))); (try (refine wcal 30 ?_ (hwl := by intro zm zF zle; exact sq_O2_1))); (try (refine wcal 31 ?_ (hwl := by intro zm zF zle; exact sq_O2_1))); (try (refine wcal 32 ?_ (hwl := by intro zm zF zle; exact sq_O2_1))); (try (refine wcal 33 ?_ (hwl := by intro zm zF zle; exact sq_O2_1))); (try (refine wcal 34 ?_ (hwl := by intro zm zF zle; exact sq_O2_1))); (try (refine wcal 35 ?_ (hwl := by intro zm zF zle; exact sq_O2_1))); (try (refine wcal 36 ?_ (hwl := by intro zm zF zle; exact sq_O2_1))); (try (refine wcal 37 ?_ (hwl := by intro zm zF zle; exact sq_O2_1))); (try (refine wcal 38 ?_ (hwl := by intro zm zF zle; exact sq_O2_1))); (try (refine wcal 39 ?_ (hwl := by intro zm zF zle; exact sq_O2_1))); (try (refine wcal 40 ?_ (hwl := by intro zm zF zle; exact sq_O2_1))); (try (refine wcal 41 ?_ (hwl := by intro zm zF zle; exact sq_O2_1))); exact zzn.out) : G := h ⟨next⟩
theorem st_O2_1 {G G' : Prop} (next : G') (h : Bx G' → G := by intro zzn; (first | ((refine st ?_; (repeat intro zzc)); (try ((first | (refine iSD rfl ?_; refine WL.sliceData rfl (by assumption) rfl ?_) | ((refine iDraw ?_; (first | refine WC.drawAll rfl (by decide +kernel) ?_ | refine WC.draw 1 rfl (by decide +kernel) ?_ | refine WC.draw 2 rfl (by decide +kernel) ?_ | refine WC.draw 3 rfl (by decide +kernel) ?_ | refine WC.draw 4 rfl (by decide +kernel) ?_ | refine WC.draw 5 rfl (by decide +kernel) ?_ | refine WC.draw 6 rfl (by decide +kernel) ?_ | refine WC.draw 7 rfl (by decide +kernel) ?_ | refine WC.draw 8 rfl (by decide +kernel) ?_ | refine WC.draw 9 rfl (by decide +kernel) ?_ | refine WC.draw 10 rfl (by decide +kernel) ?_ | refine WC.draw 11 rfl (by decide +kernel) ?_ | refine WC.draw 12 rfl (by decide +kernel) ?_ | refine WC.draw 13 rfl (by decide +kernel) ?_ | refine WC.draw 14 rfl (by decide +kernel) ?_ | refine WC.draw 15 rfl (by decide +kernel) ?_ | refine WC.draw 16 rfl (by decide +kernel) ?_ | refine WC.draw 17 rfl (by decide +kernel) ?_ | refine WC.draw 18 rfl (by decide +kernel) ?_ | refine WC.draw 19 rfl (by decide +kernel) ?_ | refine WC.draw 20 rfl (by decide +kernel) ?_ | refine WC.draw 21 rfl (by decide +kernel) ?_ | refine WC.draw 22 rfl (by decide +kernel) ?_ | refine WC.draw 23 rfl (by decide +kernel) ?_ | refine WC.draw 24 rfl (by decide +kernel) ?_)); (repeat (refine WD.cons rfl (fun c h => by cases h) sq_O2_1 ?_)); refine WD.nil ?_)); (try (refine st ?_; (repeat intro zzc)))))) | ((first | (refine iSD rfl ?_; refine WL.sliceData rfl (by assumption) rfl ?_) | ((refine iDraw ?_; (first | refine WC.drawAll rfl (by decide +kernel) ?_ | refine WC.draw 1 rfl (by decide +kernel) ?_ | refine WC.draw 2 rfl (by decide +kernel) ?_ | refine WC.draw 3 rfl (by decide +kernel) ?_ | refine WC.draw 4 rfl (by decide +kernel) ?_ | refine WC.draw 5 rfl (by decide +kernel) ?_ | refine WC.draw 6 rfl (by decide +kernel) ?_ | refine WC.draw 7 rfl (by decide +kernel) ?_ | refine WC.draw 8 rfl (by decide +kernel) ?_ | refine WC.draw 9 rfl (by decide +kernel) ?_ | refine WC.draw 10 rfl (by decide +kernel) ?_ | refine WC.draw 11 rfl (by decide +kernel) ?_ | refine WC.draw 12 rfl (by decide +kernel) ?_ | refine WC.draw 13 rfl (by decide +kernel) ?_ | refine WC.draw 14 rfl (by decide +kernel) ?_ | refine WC.draw 15 rfl (by decide +kernel) ?_ | refine WC.draw 16 rfl (by decide +kernel) ?_ | refine WC.draw 17 rfl (by decide +kernel) ?_ | refine WC.draw 18 rfl (by decide +kernel) ?_ | refine WC.draw 19 rfl (by decide +kernel) ?_ | refine WC.draw 20 rfl (by decide +kernel) ?_ | refine WC.draw 21 rfl (by decide +kernel) ?_ | refine WC.draw 22 rfl (by decide +kernel) ?_ | refine WC.draw 23 rfl (by decide +kernel) ?_ | refine WC.draw 24 rfl (by decide +kernel) ?_)); (repeat (refine WD.cons rfl (fun c h => by cases h) sq_O2_1 ?_)); refine WD.nil ?_)); (try (refine st ?_; (repeat intro zzc))))); (repeat ((first | (refine iSD rfl ?_; refine WL.sliceData rfl (by assumption) rfl ?_) | ((refine iDraw ?_; (first | refine WC.drawAll rfl (by decide +kernel) ?_ | refine WC.draw 1 rfl (by decide +kernel) ?_ | refine WC.draw 2 rfl (by decide +kernel) ?_ | refine WC.draw 3 rfl (by decide +kernel) ?_ | refine WC.draw 4 rfl (by decide +kernel) ?_ | refine WC.draw 5 rfl (by decide +kernel) ?_ | refine WC.draw 6 rfl (by decide +kernel) ?_ | refine WC.draw 7 rfl (by decide +kernel) ?_ | refine WC.draw 8 rfl (by decide +kernel) ?_ | refine WC.draw 9 rfl (by decide +kernel) ?_ | refine WC.draw 10 rfl (by decide +kernel) ?_ | refine WC.draw 11 rfl (by decide +kernel) ?_ | refine WC.draw 12 rfl (by decide +kernel) ?_ | refine WC.draw 13 rfl (by decide +kernel) ?_ | refine WC.draw 14 rfl (by decide +kernel) ?_ | refine WC.draw 15 rfl (by decide +kernel) ?_ | refine WC.draw 16 rfl (by decide +kernel) ?_ | refine WC.draw 17 rfl (by decide +kernel) ?_ | refine WC.draw 18 rfl (by decide +kernel) ?_ | refine WC.draw 19 rfl (by decide +kernel) ?_ | refine WC.draw 20 rfl (by decide +kernel) ?_ | refine WC.draw 21 rfl (by decide +kernel) ?_ | refine WC.draw 22 rfl (by decide +kernel) ?_ | refine WC.draw 23 rfl (by decide +kernel) ?_ | refine WC.draw 24 rfl (by decide +kernel) ?_)); (repeat (refine WD.cons rfl (fun c h => by cases h) sq_O2_1 ?_)); refine WD.nil ?_)); (try (refine st ?_; (repeat intro zzc))))); (repeat revert zzc); exact zzn.out) : G := h ⟨next⟩
theorem bString_any {b cap : Nat} {ao a : Option Addr} {t : List UInt8} (ha : t = [] → a = none) (hl : t.length ≤ 140737488355328) (w0 : World) (m : Mem) (H : SHeap) :
    Does Try.prog 60 #[.pointer (some ⟨b, 0, none⟩)] w0 m (.blk b (.cells [.pointer ao, .slice a t.length cap].toArray 101 (0, 0)) :: .row a cap 5 1 (bCs t) :: H) (Gives (str t) m H) := by
  refine Does.of_body (args := [.pointer (some ⟨b, 0, none⟩)]) Try.func60 rfl Try.ntmps60 rfl ?_
  have hbl := bCs_length t
  refine WC.rowCap (a := a) zhs fun hcap => ?_
  have hc : a = none ∨ 0 < cap := by
    by_cases h : t = []
    · exact .inl (ha h)
    · right; have := List.length_pos_iff.2 h; omega
  (try (refine st_O2_1 ?_; intros))
  refine WC.drawE 11 ([.blk b (.cells [.pointer ao, .slice a t.length cap].toArray 101 (0, 0))]) (.row a cap 5 1 (bCs t) :: H) rfl (by decide +kernel) zpk ?_
  (refine cm_O2_1 ?_)
  refine WE.act1 10 (by decide +kernel) rfl rfl (fun c h => by cases h) ?_
  refine WL.strRow (s := t) rfl rfl (by (repeat (first | exact Out.here | apply Out.there))) rfl (by kernel_rfl) (by omega) rfl ?_
  (try (refine st_O2_1 ?_; intros))
  refine WQ.acted (B := []) (U := H) rfl (Mem.le.refl _) zpk ?_
  refine WE.done (by decide +kernel) ?_
  (try (refine st_O2_1 ?_; intros))
  exact q_fin0 (H0 := H) (Gives.mk rfl) (hd := zpk)
theorem sq_O2_2 {G : Prop} (h : G := by (repeat (first | (refine sp ?_; (repeat intro zzc)))); exact WQ.q1 rfl) : G := h
theorem st_O2_2 {G G' : Prop} (next : G') (h : Bx G' → G := by intro zzn; (first | ((refine st ?_; (repeat intro zzc)); (try ((first | ((refine iDraw ?_; (first | refine WC.drawAll rfl (by decide +kernel) ?_ | refine WC.draw 1 rfl (by decide +kernel) ?_ | refine WC.draw 2 rfl (by decide +kernel) ?_ | refine WC.draw 3 rfl (by decide +kernel) ?_ | refine WC.draw 4 rfl (by decide +kernel) ?_ | refine WC.draw 5 rfl (by decide +kernel) ?_ | refine WC.draw 6 rfl (by decide +kernel) ?_ | refine WC.draw 7 rfl (by decide +kernel) ?_ | refine WC.draw 8 rfl (by decide +kernel) ?_ | refine WC.draw 9 rfl (by decide +kernel) ?_ | refine WC.draw 10 rfl (by decide +kernel) ?_ | refine WC.draw 11 rfl (by decide +kernel) ?_ | refine WC.draw 12 rfl (by decide +kernel) ?_ | refine WC.draw 13 rfl (by decide +kernel) ?_ | refine WC.draw 14 rfl (by decide +kernel) ?_ | refine WC.draw 15 rfl (by decide +kernel) ?_ | refine WC.draw 16 rfl (by decide +kernel) ?_ | refine WC.draw 17 rfl (by decide +kernel) ?_ | refine WC.draw 18 rfl (by decide +kernel) ?_ | refine WC.draw 19 rfl (by decide +kernel) ?_ | refine WC.draw 20 rfl (by decide +kernel) ?_ | refine WC.draw 21 rfl (by decide +kernel) ?_ | refine WC.draw 22 rfl (by decide +kernel) ?_ | refine WC.draw 23 rfl (by decide +kernel) ?_ | refine WC.draw 24 rfl (by decide +kernel) ?_)); (repeat (refine WD.cons rfl (fun c h => by cases h) sq_O2_2 ?_)); refine WD.nil ?_)); (try (refine st ?_; (repeat intro zzc)))))) | ((first | ((refine iDraw ?_; (first | refine WC.drawAll rfl (by decide +kernel) ?_ | refine WC.draw 1 rfl (by decide +kernel) ?_ | refine WC.draw 2 rfl (by decide +kernel) ?_ | refine WC.draw 3 rfl (by decide +kernel) ?_ | refine WC.draw 4 rfl (by decide +kernel) ?_ | refine WC.draw 5 rfl (by decide +kernel) ?_ | refine WC.draw 6 rfl (by decide +kernel) ?_ | refine WC.draw 7 rfl (by decide +kernel) ?_ | refine WC.draw 8 rfl (by decide +kernel) ?_ | refine WC.draw 9 rfl (by decide +kernel) ?_ | refine WC.draw 10 rfl (by decide +kernel) ?_ | refine WC.draw 11 rfl (by decide +kernel) ?_ | refine WC.draw 12 rfl (by decide +kernel) ?_ | refine WC.draw 13 rfl (by decide +kernel) ?_ | refine WC.draw 14 rfl (by decide +kernel) ?_ | refine WC.draw 15 rfl (by decide +kernel) ?_ | refine WC.draw 16 rfl (by decide +kernel) ?_ | refine WC.draw 17 rfl (by decide +kernel) ?_ | refine WC.draw 18 rfl (by decide +kernel) ?_ | refine WC.draw 19 rfl (by decide +kernel) ?_ | refine WC.draw 20 rfl (by decide +kernel) ?_ | refine WC.draw 21 rfl (by decide +kernel) ?_ | refine WC.draw 22 rfl (by decide +kernel) ?_ | refine WC.draw 23 rfl (by decide +kernel) ?_ | refine WC.draw 24 rfl (by decide +kernel) ?_)); (repeat (refine WD.cons rfl (fun c h => by cases h) sq_O2_2 ?_)); refine WD.nil ?_)); (try (refine st ?_; (repeat intro zzc))))); (repeat ((first | ((refine iDraw ?_; (first | refine WC.drawAll rfl (by decide +kernel) ?_ | refine WC.draw 1 rfl (by decide +kernel) ?_ | refine WC.draw 2 rfl (by decide +kernel) ?_ | refine WC.draw 3 rfl (by decide +kernel) ?_ | refine WC.draw 4 rfl (by decide +kernel) ?_ | refine WC.draw 5 rfl (by decide +kernel) ?_ | refine WC.draw 6 rfl (by decide +kernel) ?_ | refine WC.draw 7 rfl (by decide +kernel) ?_ | refine WC.draw 8 rfl (by decide +kernel) ?_ | refine WC.draw 9 rfl (by decide +kernel) ?_ | refine WC.draw 10 rfl (by decide +kernel) ?_ | refine WC.draw 11 rfl (by decide +kernel) ?_ | refine WC.draw 12 rfl (by decide +kernel) ?_ | refine WC.draw 13 rfl (by decide +kernel) ?_ | refine WC.draw 14 rfl (by decide +kernel) ?_ | refine WC.draw 15 rfl (by decide +kernel) ?_ | refine WC.draw 16 rfl (by decide +kernel) ?_ | refine WC.draw 17 rfl (by decide +kernel) ?_ | refine WC.draw 18 rfl (by decide +kernel) ?_ | refine WC.draw 19 rfl (by decide +kernel) ?_ | refine WC.draw 20 rfl (by decide +kernel) ?_ | refine WC.draw 21 rfl (by decide +kernel) ?_ | refine WC.draw 22 rfl (by decide +kernel) ?_ | refine WC.draw 23 rfl (by decide +kernel) ?_ | refine WC.draw 24 rfl (by decide +kernel) ?_)); (repeat (refine WD.cons rfl (fun c h => by cases h) sq_O2_2 ?_)); refine WD.nil ?_)); (try (refine st ?_; (repeat intro zzc))))); (repeat revert zzc); exact zzn.out) : G := h ⟨next⟩
theorem textOf1_any {b cap : Nat} {ao a : Option Addr} {t s : List UInt8} (hao : ao = none ∨ ao = some ⟨b, 0, none⟩) (hl : t.length + s.length ≤ 140737488355328) (w0 : World) (m : Mem) (H : SHeap) :
    Does Try.prog 71 #[str s, .pointer (some ⟨b, 0, none⟩)] w0 m (.blk b (.cells [.pointer ao, .slice a t.length cap].toArray 101 (0, 0)) :: .row a cap 5 1 (bCs t) :: H)
      (fun v m' H' => v = .bool true ∧ m' = m ∧ ∃ a' cap', H' = .blk b (.cells [.pointer (some ⟨b, 0, none⟩), .slice a' (t ++ s).length cap'].toArray 101 (0, 0)) :: .row a' cap' 5 1 (bCs (t ++ s)) :: H) := by
  refine Does.of_body (args := [str s, .pointer (some ⟨b, 0, none⟩)]) Try.func71 rfl Try.ntmps71 rfl ?_
  (try (refine st_O2_2 ?_; intros))
  refine w_callF Try.func58 ?_ (hs := writeString_any hao hl _ _ _)
  rintro v m H1 ⟨rfl, rfl, a2, cap2, rfl⟩
  (try (refine st_O2_2 ?_; intros))
  exact q_fin0 (H0 := .blk b (.cells [.pointer (some ⟨b, 0, none⟩), .slice a2 (t ++ s).length cap2].toArray 101 (0, 0)) :: .row a2 cap2 5 1 (bCs (t ++ s)) :: H) ⟨rfl, rfl, a2, cap2, rfl⟩ (hd := zpk)
/-- what a node's parts are handed to, one after the other -/
def Hands (w0 : World) (fv : Value) (xs : List (List UInt8)) (J Jx : List (List UInt8) → Mem → SHeap → Prop) (m : Mem) : Prop :=
  ∀ pre x post, xs = pre ++ x :: post → ∀ m1 H1 Hit, J pre m1 H1 → m.le m1 →
    FnOK Try.prog w0 fv [str x] m1 (Hit ++ H1) (fun m' H' => ∃ H2, H' = Hit ++ H2 ∧ J (pre ++ [x]) m' H2 ∧ m1.le m') (fun m' H' => ∃ H2, H' = Hit ++ H2 ∧ Jx (pre ++ [x]) m' H2 ∧ m1.le m')
theorem leaves_any {w0 : World} {fv : Value} : ∀ (T : Nd) (v : Value) (J Jx : List (List UInt8) → Mem → SHeap → Prop) (m : Mem) (H : SHeap), NAt m T v → J [] m H → Hands w0 fv T.parts J Jx m →
    Does Try.prog 54 #[v, fv] w0 m H (fun u m' H' => m.le m' ∧ (u = .bool true ∧ J T.parts m' H' ∨ u = .bool false ∧ ∃ pre, pre <+: T.parts ∧ Jx pre m' H')) := by
  intro T
  induction T with
  | leaf s =>
    intro v J Jx m H hT h0 hh
    cases hT
    refine Does.of_body (args := [.iface 118 (.agg #[str s]), fv]) Try.func54 rfl Try.ntmps54 rfl ?_
    (try (refine st_O2_2 ?_; intros))
    refine WL.assertYes rfl (by kernel_rfl) rfl ?_
    (refine st_O2_2 ?_; intros; rename_i q)
    have hf := hh [] s [] rfl m H [.blk q (.cells [str s].toArray 118 (0, 0))] h0 (Mem.le.refl _)
    refine hf rfl rfl rfl ?_ ?_
    · rintro m' H' ⟨H2, rfl, hJ, hle⟩
      simp only [List.cons_append, List.nil_append]
      (try (refine st_O2_2 ?_; intros))
      exact q_fin0 (H0 := H2) ⟨hle, .inl ⟨rfl, hJ⟩⟩ (hd := zpk)
    · rintro m' H' ⟨H2, rfl, hJ, hle⟩
      simp only [List.cons_append, List.nil_append]
      (try (refine st_O2_2 ?_; intros))
      exact q_fin0 (H0 := H2) ⟨hle, .inr ⟨rfl, [s], List.prefix_refl _, hJ⟩⟩ (hd := zpk)
  | joint l r ihl ihr =>
    intro v J Jx m H hT h0 hh
    obtain ⟨b, vl, vr, rfl, hb, hl, hr⟩ := hT
    have hp : (Nd.joint l r).parts = l.parts ++ r.parts := rfl
    refine Does.of_body (args := [.iface 119 (.pointer (some ⟨b, 0, none⟩)), fv]) Try.func54 rfl Try.ntmps54 rfl ?_
    (try (refine st_O2_2 ?_; intros))
    refine WL.assertNo (z := .agg #[str []]) rfl rfl (by kernel_rfl) (fun _ => by kernel_rfl) rfl ?_
    (try (refine st_O2_2 ?_; intros))
    refine WL.assertYes rfl (by kernel_rfl) rfl ?_
    (try (refine st_O2_2 ?_; intros))
    refine w_callF Try.func54 ?_ (hs := ihl vl J Jx m H hl h0 (fun pre x post h => hh pre x (post ++ r.parts) (by rw [hp, h]; simp)))
    rintro u m1 H1 ⟨hle1, ⟨rfl, hJ⟩ | ⟨rfl, pre, hpre, hJ⟩⟩
    · have hb1 := hle1 _ _ hb
      (try (refine st_O2_2 ?_; intros))
      refine w_callF Try.func54 ?_ (hs := ihr vr (fun pre => J (l.parts ++ pre)) (fun pre => Jx (l.parts ++ pre)) m1 H1 (hr.le hle1) (by simpa using hJ) (fun pre x post h m2 H2 Hit hJ2 hle2 => by have := hh (l.parts ++ pre) x post (by rw [hp, h]; simp) m2 H2 Hit hJ2 (hle1.trans hle2); rwa [List.append_assoc] at this))
      rintro u m2 H2 ⟨hle2, ⟨rfl, hJ⟩ | ⟨rfl, pre, hpre, hJ⟩⟩
      · (try (refine st_O2_2 ?_; intros))
        exact q_fin0 (H0 := H2) ⟨hle1.trans hle2, .inl ⟨rfl, hJ⟩⟩ (hd := zpk)
      · (try (refine st_O2_2 ?_; intros))
        exact q_fin0 (H0 := H2) ⟨hle1.trans hle2, .inr ⟨rfl, l.parts ++ pre, by rw [hp]; exact (List.prefix_append_right_inj _).2 hpre, hJ⟩⟩ (hd := zpk)
    · (try (refine st_O2_2 ?_; intros))
      exact q_fin0 (H0 := H1) ⟨hle1, .inr ⟨rfl, pre, hpre.trans (by rw [hp]; exact List.prefix_append _ _), hJ⟩⟩ (hd := zpk)
theorem leavesNil_any {w0 : World} {fv : Value} (m : Mem) (H : SHeap) : Does Try.prog 54 #[.nilIface, fv] w0 m H (Gives (.bool true) m H) := by
  refine Does.of_body (args := [.nilIface, fv]) Try.func54 rfl Try.ntmps54 rfl ?_
  (try (refine st_O2_2 ?_; intros))
  refine WL.assertNil (z := .agg #[str []]) rfl (by kernel_rfl) (fun _ => by kernel_rfl) rfl ?_
  (try (refine st_O2_2 ?_; intros))
  refine WL.assertNil (z := .pointer none) rfl (by kernel_rfl) (fun _ => by kernel_rfl) rfl ?_
  (try (refine st_O2_2 ?_; intros))
  exact q_fin0 (H0 := H) (Gives.mk rfl) (hd := zpk)
theorem textOf_any {o : Option Nd} {v : Value} (ho : OkR o) (hl : (rtxt o).length ≤ 140737488355328) (w0 : World) (m : Mem) (H : SHeap) (hT : RAt m o v) :
    Does Try.prog 41 #[v] w0 m H (Gives (str (rtxt o)) m H) := by
  refine Does.of_body (args := [v]) Try.func41 rfl Try.ntmps41 rfl ?_
  cases o with
  | none =>
    cases hT
    (refine st_O2_2 ?_; intros; rename_i b)
    refine w_callF Try.func54 ?_ (hs := leavesNil_any _ _)
    rintro u m1 H1 ⟨rfl, rfl, rfl⟩
    refine WL.newRow (T := 5) (sz := 1) ?_
    (try (refine st_O2_2 ?_; intros))
    refine WL.heap (H' := .blk b (.cells [.pointer none, .slice none ([] : List UInt8).length 0].toArray 101 (0, 0)) :: .row none 0 5 1 (bCs []) :: H) zpk ?_
    refine w_callF Try.func60 ?_ (hs := bString_any (t := []) (fun _ => rfl) (by simp) _ _ _)
    rintro u m1 H1 ⟨rfl, rfl, rfl⟩
    (try (refine st_O2_2 ?_; intros))
    exact q_fin0 (H0 := H1) (Gives.mk rfl) (hd := zpk)
  | some T =>
    have htx : rtxt (some T) = T.parts.flatten := (Nd.parts_text T).symm
    rw [htx] at hl ⊢
    (refine st_O2_2 ?_; intros; rename_i b)
    refine WL.newRow (T := 5) (sz := 1) ?_
    refine WL.heap (H' := .blk b (.cells [.pointer none, .slice none ([] : List UInt8).length 0].toArray 101 (0, 0)) :: .row none 0 5 1 (bCs []) :: H) zpk ?_
    refine w_callF Try.func54 ?_ (hs := leaves_any T v (fun pre m' H' => m' = m ∧ ∃ ao a cap, (ao = none ∨ ao = some ⟨b, 0, none⟩) ∧ (pre = [] → a = none) ∧ H' = .blk b (.cells [.pointer ao, .slice a pre.flatten.length cap].toArray 101 (0, 0)) :: .row a cap 5 1 (bCs pre.flatten) :: H) (fun _ _ _ => False) m _ hT ⟨rfl, none, none, 0, .inl rfl, fun _ => rfl, rfl⟩ ?_)
    · rintro u m1 H1 ⟨_, ⟨rfl, rfl, ao, a, cap, hao, ha, rfl⟩ | ⟨_, _, _, h⟩⟩
      · (try (refine st_O2_2 ?_; intros))
        refine w_callF Try.func60 ?_ (hs := bString_any (t := T.parts.flatten) (fun h => ha (by have h1 := Nd.size_pos ho; rw [Nd.parts_text] at h; simp [Nd.size, h] at h1)) hl _ _ _)
        rintro u m1 H1 ⟨rfl, rfl, rfl⟩
        (try (refine st_O2_2 ?_; intros))
        exact q_fin0 (H0 := H1) (Gives.mk rfl) (hd := zpk)
      · exact h.elim
    · rintro pre x post hx m1 H1 Hit ⟨rfl, ao, a, cap, hao, ha, rfl⟩ _
      have hlen : pre.flatten.length + x.length ≤ 140737488355328 := by rw [hx] at hl; simp at hl ⊢; omega
      refine FnOK.clo Try.func71 rfl rfl ?_
      refine (textOf1_any hao hlen w0 m1 (Hit ++ H)).reheap (fun w h => h.perm (perm_mid2 Hit _ _ H)) ?_
      rintro v2 m2 H2 ⟨rfl, rfl, a2, cap2, rfl⟩
      refine ⟨_, .inl ⟨rfl, _, rfl, ⟨rfl, some ⟨b, 0, none⟩, a2, cap2, .inr rfl, fun h => by simp at h, rfl⟩, Mem.le.refl _⟩, fun w h => ?_⟩
      have := h.perm (perm_mid2 Hit _ _ H).symm
      simpa using this
end Go.Proofs.Ytljfncpecpkhhaa

