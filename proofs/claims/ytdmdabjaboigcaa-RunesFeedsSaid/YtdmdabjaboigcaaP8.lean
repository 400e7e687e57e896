/-
  Parts of a walk, joined: EngS EngT R35 R32 R11. No condition.
-/
import Derived.Test.YtdmdabjaboigcaaP4
import Derived.Test.YtdmdabjaboigcaaP5
import Derived.Test.YtdmdabjaboigcaaP2
import Derived.Test.YtdmdabjaboigcaaP7
import Derived.Test.YtdmdabjaboigcaaP6
/-
  A walk's engine, eighteenth part: a region that draws its order, where some operations change the heap: what is calm is done first, what acts is done in every order that there is. No condition.
-/
set_option linter.all false
namespace Go.Eng
open Go Go.RowKit
/-- what an operation owes that may change the heap -/
def QE (w0 : World) (d : Nat) (ds : List Nat) (S : SHeap) (m : Mem) (K : Value → Mem → SHeap → SHeap → Prop) : Exit → Act → World → Prop
  | .normal, a, w => ∃ v m' B U, a.tmps[d]? = some v ∧ a.defers = marks ds ∧ m.le m' ∧ Sat w0 m' (S ++ B ++ U) w ∧ K v m' (S ++ B) U
  | _, _, _ => False
def readyV (V : Nat) (o : Oper) : Prop := ∀ e ∈ o.after, bind1 e = true → V.testBit e.on = true
section
variable {P : Program} {ro : Option Nat} {n : Nat} {w0 : World} {Q : Exit → Act → World → Prop} {r : Env} {ds : List Nat} {m : Mem} {H : SHeap}
theorem WQ.acted {d : Nat} {S B U : SHeap} {m0 : Mem} {K : Value → Mem → SHeap → SHeap → Prop} {v : Value} (hv : r.get d = some v) (hm : m0.le m) (hh : ∀ w, Sat w0 m H w → Sat w0 m (S ++ B ++ U) w) (hK : K v m (S ++ B) U) :
    WQ n w0 (QE w0 d ds S m0 K) .normal r ds m H := fun _ w ho hs => ⟨v, m, B, U, ho.at_ _ _ hv, rfl, hm, hh w hs, hK⟩
/-- what is left of a region: V tells which operations are done, or calm; S is what none of them changes -/
def WE (P : Program) (ro : Option Nat) (n : Nat) (w0 : World) (l : List Oper) (g : Nat) (ds : List Nat) (K : Env → Mem → SHeap → SHeap → Prop) : Nat → Nat → Env → Mem → SHeap → SHeap → Prop
  | 0, _, _, _, _, _ => False
  | k + 1, V, r, m, S, U =>
    ((∀ i, i < g → V.testBit i = true) ∧ K r m S U) ∨
    (∃ i o d v, i < g ∧ l[i]? = some o ∧ V.testBit i = false ∧ readyV V o ∧ o.dst = some d ∧ (∀ c, o.op ≠ .defer c) ∧
      (∀ m' F, m.le m' → WL P ro n w0 l.toArray (Q1 w0 d v ds m' (S ++ F)) [o] (Env.sel (o.looksAt l.toArray) r) ds m' (S ++ F)) ∧
      WE P ro n w0 l g ds K k (V ||| 1 <<< i) ((d, v) :: r) m S U) ∨
    ((∃ i, i < g ∧ V.testBit i = false) ∧ ∀ i o, i < g → l[i]? = some o → V.testBit i = false → readyV V o → ∃ d, o.dst = some d ∧ (∀ c, o.op ≠ .defer c) ∧
      WL P ro n w0 l.toArray (QE w0 d ds S m fun v m' S' U' => WE P ro n w0 l g ds K k (V ||| 1 <<< i) ((d, v) :: r) m' S' U') [o] (Env.sel (o.looksAt l.toArray) r) ds m (S ++ U))
theorem bit_set (V i j : Nat) : (V ||| 1 <<< i).testBit j = (V.testBit j || decide (i = j)) := by
  rw [Nat.testBit_or, Nat.one_shiftLeft, Nat.testBit_two_pow]
theorem bit_keep {V i j : Nat} (h : V.testBit j = true) : (V ||| 1 <<< i).testBit j = true := by rw [bit_set, h]; rfl
theorem bit_self (V i : Nat) : (V ||| 1 <<< i).testBit i = true := by rw [bit_set]; simp
theorem bit_old {V i j : Nat} (h : (V ||| 1 <<< i).testBit j = true) (hne : j ≠ i) : V.testBit j = true := by
  rw [bit_set] at h
  have : decide (i = j) = false := by simp; exact fun e => hne e.symm
  simpa [this] using h
theorem mask_in {l : List Oper} {g : Nat} {M : List Nat} (ok : DrawOk l g M) {p : Nat → Prop} {b : Nat} (hb : b ≤ l.length) (hc : ∀ j o, j < b → l[j]? = some o → p j → ∀ e ∈ o.after, bind1 e = true → p e.on) :
    ∀ j o, j < b → l[j]? = some o → (∀ e ∈ o.after, bind1 e = true → p e.on) → ∀ i, (M.getD j 0).testBit i = true → p i := by
  intro j
  induction j using Nat.strongRecOn with
  | _ j ih =>
    intro o hjb ho hw i hi
    rw [← ok.sub j o ho, Nat.testBit_and, Bool.and_eq_true] at hi
    rcases mask_bits M o.after.toList 0 i hi.2 with h | ⟨e, he, hbd, h⟩
    · simp at h
    · have he' : e ∈ o.after := by simpa using he
      have hon := hw e he' hbd
      rcases h with rfl | h
      · exact hon
      · have hlt := ok.down j o ho e he' hbd
        have hl : e.on < l.length := by omega
        exact ih e.on hlt l[e.on] (by omega) (List.getElem?_eq_getElem hl) (hc e.on _ (by omega) (List.getElem?_eq_getElem hl) hon) i h
/-- from what an operation owes, whatever comes behind it -/
theorem wpOp_of_post {ops : Array Oper} {i : Nat} {o : Oper} {d : Nat} {tmps : Array Value} {w : World} {Qx : Exit → Act → World → Prop} {K : Act → World → Prop} (hi : ops[i]? = some o) (hd : o.dst = some d) (hnd : ∀ c, o.op ≠ .defer c)
    (hdf : ∀ a w, Qx .normal a w → a.defers = marks ds) (hbad : ∀ e a w, Qx e a w → e = .normal)
    (h : wpListIn (FW ro) 0 P ops Qx [o] ⟨tmps, marks ds⟩ w) (hK : ∀ v0 w', Qx .normal ⟨tmps.setIfInBounds d v0, marks ds⟩ w' → K ⟨tmps.setIfInBounds d v0, marks ds⟩ w') : wpOpIn (FW ro) 0 P ops Q i K ⟨tmps, marks ds⟩ w := by
  have key : ∀ v0 w', Qx .normal ((Act.mk tmps (marks ds)).put o.dst v0) w' → K ((Act.mk tmps (marks ds)).put o.dst v0) w' := by
    intro v0 w' hq
    rw [hd] at hq ⊢
    exact hK v0 w' hq
  unfold wpOpIn
  rw [hi]
  unfold wpListIn at h
  simp only
  split
  · rename_i hw
    rw [if_pos hw] at h
    refine ⟨h.1, ?_⟩
    have h2 := h.2
    rw [semAt_exec (FW ro).round _ _ hnd] at h2 ⊢
    generalize hr : (execOp (Act.mk tmps (marks ds)).eval o).run P w = res at *
    cases res with
    | ok x w' =>
      cases x <;> simp only [Oper.uponIn] at h2 ⊢
      case value v0 => exact key _ _ h2
      case skip => exact key _ _ h2
      case defer df =>
        exfalso
        have h4 := congrArg List.length (hdf _ _ h2)
        rw [hd] at h4
        simp [Act.put] at h4
      case enter f args => exact ⟨h2.1, CallsIn.mono h2.2 fun e w'' he => by
        cases e with
        | returned v0 => exact key _ _ he
        | panicked chain => exact absurd (hbad _ _ _ he) (by simp)
        | outgrown => obtain ⟨a, b, hh⟩ := he; exact absurd (hbad _ _ _ hh) (by simp)⟩
      case row rw' args => exact ⟨h2.1, RowsIn.mono h2.2 fun v0 w'' he => key _ _ he⟩
      case round l f tm asg bd => exact ⟨h2.1, RoundIn.mono h2.2 fun e w'' he => by
        cases e with
        | returned v0 => exact key _ _ he
        | panicked chain => exact absurd (hbad _ _ _ he) (by simp)
        | outgrown => obtain ⟨a, b, hh⟩ := he; exact absurd (hbad _ _ _ hh) (by simp)⟩
    | halt x w' =>
      cases x <;> simp only [Oper.uponIn] at h2 ⊢
      all_goals first | exact h2.elim | exact absurd (hbad _ _ _ h2) (by simp) | exact absurd (hbad _ _ _ h2.2) (by simp) | skip
  · rename_i hw
    rw [if_neg hw] at h
    exact ⟨h.1, key _ _ h.2⟩
theorem count_set {l : List Oper} {listed : Array Bool} {i : Nat} (hs : listed.size = l.length) (hil : i < l.length) (hnl : listed.getD i false = false) :
    ((List.range l.length).filter fun k => !(listed.setIfInBounds i true).getD k false).length < ((List.range l.length).filter fun k => !listed.getD k false).length := by
  have hsub : List.Sublist ((List.range l.length).filter fun k => !(listed.setIfInBounds i true).getD k false) (((List.range l.length).filter fun k => !listed.getD k false).erase i) := by
    have hnd : ((List.range l.length).filter fun k => !listed.getD k false).Nodup := List.Pairwise.filter _ List.nodup_range
    rw [hnd.erase_eq_filter, List.filter_filter]
    refine sub_of_eq ?_
    apply List.filter_congr
    intro k hk
    simp only [Array.getD_eq_getD_getElem?]
    by_cases hik : i = k
    · subst hik; simp [show i < listed.size by omega]
    · rw [Array.getElem?_setIfInBounds_ne hik]; simp [Ne.symm hik]
  have hmem : i ∈ (List.range l.length).filter fun k => !listed.getD k false := by simp only [List.mem_filter, List.mem_range]; exact ⟨hil, by rw [hnl]; rfl⟩
  have h5 := hsub.length_le
  rw [List.length_erase_of_mem hmem] at h5
  have := List.length_pos_of_mem hmem
  omega
theorem listed_set {listed : Array Bool} {i j : Nat} (h : (listed.setIfInBounds i true).getD j false = true) (hne : j ≠ i) : listed.getD j false = true := by
  simp only [Array.getD_eq_getD_getElem?] at h ⊢
  rwa [Array.getElem?_setIfInBounds_ne (fun e => hne e.symm)] at h
theorem listed_keep {listed : Array Bool} {i j : Nat} (h : listed.getD j false = true) : (listed.setIfInBounds i true).getD j false = true := by
  simp only [Array.getD_eq_getD_getElem?] at h ⊢
  by_cases hij : i = j
  · subst hij
    by_cases hlt : i < listed.size
    · simp [hlt]
    · simp [Array.getElem?_eq_none (Nat.le_of_not_lt hlt)] at h
  · rwa [Array.getElem?_setIfInBounds_ne hij]
structure DInv (P : Program) (ro : Option Nat) (n : Nat) (w0 : World) (l : List Oper) (g : Nat) (M : List Nat) (ds : List Nat) (S : SHeap) (r0 : Env) (V : Nat) (r : Env) (m : Mem) (val : Nat → Value) (listed : Array Bool) (tmps : Array Value) : Prop where
  env : ∀ t u, r.get t = some u → (∃ j o, j < g ∧ V.testBit j = true ∧ l[j]? = some o ∧ o.dst = some t ∧ val j = u) ∨ (r0.get t = some u ∧ ∀ j o, j < g → V.testBit j = true → l[j]? = some o → o.dst ≠ some t)
  vclosed : ∀ j o, j < g → l[j]? = some o → V.testBit j = true → readyV V o
  rcd : ∀ i o, i < g → l[i]? = some o → V.testBit i = true → listed.getD i false = false → ∃ d ri, o.dst = some d ∧ (∀ c, o.op ≠ .defer c) ∧
    (∀ t ∈ o.looksAt l.toArray, ∀ u, ri.get t = some u → (∃ j oj, j < g ∧ l[j]? = some oj ∧ oj.dst = some t ∧ val j = u ∧ ∃ e ∈ o.after, bind1 e = true ∧ e.on = j) ∨ (r0.get t = some u ∧ ∀ j oj, j < g → l[j]? = some oj → oj.dst = some t → (M.getD j 0).testBit i = true)) ∧
    ∀ m' F, m.le m' → WL P ro n w0 l.toArray (Q1 w0 d (val i) ds m' (S ++ F)) [o] (Env.sel (o.looksAt l.toArray) ri) ds m' (S ++ F)
  size : listed.size = l.length
  closed : Closed l listed
  sub : ∀ j, j < g → listed.getD j false = true → V.testBit j = true
  tail : ∀ j, g ≤ j → j < l.length → listed.getD j false = false
  tsize : tmps.size = n
  done : ∀ j o d, j < g → listed.getD j false = true → l[j]? = some o → o.dst = some d → tmps[d]? = some (val j)
  old : ∀ t u, r0.get t = some u → (∀ j o, j < g → listed.getD j false = true → l[j]? = some o → o.dst ≠ some t) → tmps[t]? = some u
section sound
variable {l : List Oper} {g : Nat} {M : List Nat} {S U : SHeap} {r0 : Env} {V : Nat} {val : Nat → Value} {listed : Array Bool} {tmps : Array Value} {w : World}
theorem DInv.vmask (ok : DrawOk l g M) (h : DInv P ro n w0 l g M ds S r0 V r m val listed tmps) {j i : Nat} {o : Oper} (hj : j < g) (ho : l[j]? = some o) (hr : readyV V o) (hb : (M.getD j 0).testBit i = true) : V.testBit i = true :=
  mask_in ok ok.le (p := fun j => V.testBit j = true) (fun j o hj ho hp => h.vclosed j o hj ho hp) j o hj ho hr i hb
/-- what is drawn and already calm -/
theorem DInv.deferred (ok : DrawOk l g M) (h : DInv P ro n w0 l g M ds S r0 V r m val listed tmps) (hsat : Sat w0 m (S ++ U) w) {i : Nat} {o : Oper} (hi : i < g) (ho : l[i]? = some o) (hV : V.testBit i = true) (hnl : listed.getD i false = false)
    (hw : ∀ e ∈ o.after, bind1 e = true → listed.getD e.on false = true) {K : Act → World → Prop}
    (hK : ∀ tmps' w', DInv P ro n w0 l g M ds S r0 V r m val (listed.setIfInBounds i true) tmps' → Sat w0 m (S ++ U) w' → K ⟨tmps', marks ds⟩ w') : wpOpIn (FW ro) 0 P l.toArray Q i K ⟨tmps, marks ds⟩ w := by
  obtain ⟨d, ri, hd, hnd, hri, hwl⟩ := h.rcd i o hi ho hV hnl
  refine wpOp_of_q1 (m := m) (H := S ++ U) (w0 := w0) (v := val i) (by simpa using ho) hd hnd ?_ ?_
  · refine hwl m U (Mem.le.refl _) tmps w ⟨h.tsize, fun t u ht => ?_⟩ hsat
    obtain ⟨hlook, hget⟩ := Env.sel_get ht
    rcases hri t hlook u hget with ⟨j, oj, hj, hoj, hdj, hv, e, he, hb, hon⟩ | ⟨h0, hno⟩
    · have := hw e he hb
      rw [hon] at this
      rw [h.done j oj t hj this hoj hdj, hv]
    · refine h.old t u h0 (fun j oj hj hjl hoj hdj => ?_)
      have := mask_listed ok h.closed j oj hoj (h.closed j oj hoj hjl) i (hno j oj hj hoj hdj)
      rw [hnl] at this; cases this
  · intro w' hsat' hdlt
    have hil := (List.getElem?_eq_some_iff.1 ho).1
    refine hK _ w' ⟨h.env, h.vclosed, ?_, by simp [h.size], closed_set h.closed ho hw, ?_, ?_, by simp [h.tsize], ?_, ?_⟩ hsat'
    · intro i' o' hi' ho' hV' hnl'
      refine h.rcd i' o' hi' ho' hV' ?_
      cases hq : listed.getD i' false with
      | false => rfl
      | true => rw [listed_keep hq] at hnl'; cases hnl'
    · intro j hj hjl
      by_cases e : j = i
      · subst e; exact hV
      · exact h.sub j hj (listed_set hjl e)
    · intro j hj hjl
      cases hq : (listed.setIfInBounds i true).getD j false with
      | false => rfl
      | true => have := listed_set hq (by omega); rw [h.tail j hj hjl] at this; cases this
    · intro j oj dj hj hjl hoj hdj
      by_cases e : j = i
      · subst e
        rw [ho] at hoj; cases hoj
        rw [hd] at hdj; cases hdj
        exact Array.getElem?_setIfInBounds_self_of_lt hdlt
      · have hne : d ≠ dj := fun e2 => by
          subst e2
          exact e ((ok.dst j oj hj hoj).2 i o hi ho (hdj.trans hd.symm))
        rw [Array.getElem?_setIfInBounds_ne hne]
        exact h.done j oj dj hj (listed_set hjl e) hoj hdj
    · intro t u ht hno
      have hil' : (listed.setIfInBounds i true).getD i false = true := by simp [show i < listed.size by rw [h.size]; exact hil]
      have hne : d ≠ t := fun e => by subst e; exact hno i o hi hil' ho hd
      rw [Array.getElem?_setIfInBounds_ne hne]
      exact h.old t u ht (fun j oj hj hjl hoj => hno j oj hj (listed_keep hjl) hoj)
/-- one more is calm -/
theorem DInv.calm (ok : DrawOk l g M) (h : DInv P ro n w0 l g M ds S r0 V r m val listed tmps) {i d : Nat} {o : Oper} {v : Value} (hi : i < g) (ho : l[i]? = some o) (hV : V.testBit i = false) (hr : readyV V o) (hd : o.dst = some d) (hnd : ∀ c, o.op ≠ .defer c)
    (hwl : ∀ m' F, m.le m' → WL P ro n w0 l.toArray (Q1 w0 d v ds m' (S ++ F)) [o] (Env.sel (o.looksAt l.toArray) r) ds m' (S ++ F)) :
    DInv P ro n w0 l g M ds S r0 (V ||| 1 <<< i) ((d, v) :: r) m (fun j => if j = i then v else val j) listed tmps := by
  have hval : ∀ j, V.testBit j = true → (if j = i then v else val j) = val j := fun j hj => if_neg (fun e => by subst e; rw [hV] at hj; cases hj)
  refine ⟨?_, ?_, ?_, h.size, h.closed, fun j hj hjl => bit_keep (h.sub j hj hjl), h.tail, h.tsize, ?_, h.old⟩
  · intro t u ht
    simp only [Env.get] at ht
    cases hq : Nat.beq d t with
    | true =>
      have e := Nat.eq_of_beq_eq_true hq
      subst e
      simp [hq] at ht
      subst ht
      exact .inl ⟨i, o, hi, bit_self V i, ho, hd, if_pos rfl⟩
    | false =>
      simp [hq] at ht
      rcases h.env t u ht with ⟨j, oj, hj, hjV, hoj, hdj, hv⟩ | ⟨h0, hno⟩
      · exact .inl ⟨j, oj, hj, bit_keep hjV, hoj, hdj, by rw [hval j hjV]; exact hv⟩
      · refine .inr ⟨h0, fun j oj hj hjV hoj hdj => ?_⟩
        by_cases e : j = i
        · subst e
          rw [ho] at hoj; cases hoj
          rw [hd] at hdj; cases hdj
          exact Nat.ne_of_beq_eq_false hq rfl
        · exact hno j oj hj (bit_old hjV e) hoj hdj
  · intro j oj hj hoj hjV e he hb
    by_cases e2 : j = i
    · subst e2
      rw [ho] at hoj; cases hoj
      exact bit_keep (hr e he hb)
    · exact bit_keep (h.vclosed j oj hj hoj (bit_old hjV e2) e he hb)
  · intro i' o' hi' ho' hV' hnl'
    by_cases e : i' = i
    · subst e
      rw [ho] at ho'; cases ho'
      refine ⟨d, r, hd, hnd, ?_, ?_⟩
      · intro t hlook u hget
        rcases h.env t u hget with ⟨j, oj, hj, hjV, hoj, hdj, hv⟩ | ⟨h0, hno⟩
        · rcases ok.reads i' o hi ho t hlook j oj hj hoj hdj with ⟨_, e, he, hb, hon⟩ | ⟨_, hbit⟩
          · exact .inl ⟨j, oj, hj, hoj, hdj, by rw [hval j hjV]; exact hv, e, he, hb, hon⟩
          · have := h.vmask ok hj hoj (h.vclosed j oj hj hoj hjV) hbit
            rw [hV] at this; cases this
        · refine .inr ⟨h0, fun j oj hj hoj hdj => ?_⟩
          rcases ok.reads i' o hi ho t hlook j oj hj hoj hdj with ⟨_, e, he, hb, hon⟩ | ⟨_, hbit⟩
          · have := hr e he hb
            rw [hon] at this
            exact absurd hdj (hno j oj hj this hoj)
          · exact hbit
      · simp only [if_true]
        exact hwl
    · have hVo := bit_old hV' e
      obtain ⟨d', ri, k1, k2, k3, k4⟩ := h.rcd i' o' hi' ho' hVo hnl'
      refine ⟨d', ri, k1, k2, ?_, by rw [hval i' hVo]; exact k4⟩
      intro t hlook u hget
      rcases k3 t hlook u hget with ⟨j, oj, hj, hoj, hdj, hv, e', he', hb', hon'⟩ | h2
      · have hjV : V.testBit j = true := by have := h.vclosed i' o' hi' ho' hVo e' he' hb'; rwa [hon'] at this
        exact .inl ⟨j, oj, hj, hoj, hdj, by rw [hval j hjV]; exact hv, e', he', hb', hon'⟩
      · exact .inr h2
  · intro j oj dj hj hjl hoj hdj
    rw [hval j (h.sub j hj hjl)]
    exact h.done j oj dj hj hjl hoj hdj
/-- one acts -/
theorem DInv.act (ok : DrawOk l g M) (h : DInv P ro n w0 l g M ds S r0 V r m val listed tmps) {i d : Nat} {o : Oper} {v : Value} {m' : Mem} {B : SHeap} (hi : i < g) (ho : l[i]? = some o) (hV : V.testBit i = false)
    (hw : ∀ e ∈ o.after, bind1 e = true → listed.getD e.on false = true) (hd : o.dst = some d) (hm : m.le m') (hdlt : d < tmps.size) :
    DInv P ro n w0 l g M ds (S ++ B) r0 (V ||| 1 <<< i) ((d, v) :: r) m' (fun j => if j = i then v else val j) (listed.setIfInBounds i true) (tmps.setIfInBounds d v) := by
  have hval : ∀ j, V.testBit j = true → (if j = i then v else val j) = val j := fun j hj => if_neg (fun e => by subst e; rw [hV] at hj; cases hj)
  have hil := (List.getElem?_eq_some_iff.1 ho).1
  have hr : readyV V o := fun e he hb => h.sub e.on (by have := ok.down i o ho e he hb; omega) (hw e he hb)
  refine ⟨?_, ?_, ?_, by simp [h.size], closed_set h.closed ho hw, ?_, ?_, by simp [h.tsize], ?_, ?_⟩
  · intro t u ht
    simp only [Env.get] at ht
    cases hq : Nat.beq d t with
    | true =>
      have e := Nat.eq_of_beq_eq_true hq
      subst e
      simp [hq] at ht
      subst ht
      exact .inl ⟨i, o, hi, bit_self V i, ho, hd, if_pos rfl⟩
    | false =>
      simp [hq] at ht
      rcases h.env t u ht with ⟨j, oj, hj, hjV, hoj, hdj, hv⟩ | ⟨h0, hno⟩
      · exact .inl ⟨j, oj, hj, bit_keep hjV, hoj, hdj, by rw [hval j hjV]; exact hv⟩
      · refine .inr ⟨h0, fun j oj hj hjV hoj hdj => ?_⟩
        by_cases e : j = i
        · subst e
          rw [ho] at hoj; cases hoj
          rw [hd] at hdj; cases hdj
          exact Nat.ne_of_beq_eq_false hq rfl
        · exact hno j oj hj (bit_old hjV e) hoj hdj
  · intro j oj hj hoj hjV e he hb
    by_cases e2 : j = i
    · subst e2
      rw [ho] at hoj; cases hoj
      exact bit_keep (hr e he hb)
    · exact bit_keep (h.vclosed j oj hj hoj (bit_old hjV e2) e he hb)
  · intro i' o' hi' ho' hV' hnl'
    have e : i' ≠ i := fun e => by
      subst e
      have : (listed.setIfInBounds i' true).getD i' false = true := by simp [show i' < listed.size by rw [h.size]; exact hil]
      rw [this] at hnl'; cases hnl'
    have hVo := bit_old hV' e
    have hnl : listed.getD i' false = false := by
      cases hq : listed.getD i' false with
      | false => rfl
      | true => rw [listed_keep hq] at hnl'; cases hnl'
    obtain ⟨d', ri, k1, k2, k3, k4⟩ := h.rcd i' o' hi' ho' hVo hnl
    refine ⟨d', ri, k1, k2, ?_, by rw [hval i' hVo]; exact fun m'' F hle => by rw [List.append_assoc]; exact k4 m'' (B ++ F) (hm.trans hle)⟩
    intro t hlook u hget
    rcases k3 t hlook u hget with ⟨j, oj, hj, hoj, hdj, hv, e', he', hb', hon'⟩ | h2
    · have hjV : V.testBit j = true := by have := h.vclosed i' o' hi' ho' hVo e' he' hb'; rwa [hon'] at this
      exact .inl ⟨j, oj, hj, hoj, hdj, by rw [hval j hjV]; exact hv, e', he', hb', hon'⟩
    · exact .inr h2
  · intro j hj hjl
    by_cases e : j = i
    · subst e; exact bit_self V j
    · exact bit_keep (h.sub j hj (listed_set hjl e))
  · intro j hj hjl
    cases hq : (listed.setIfInBounds i true).getD j false with
    | false => rfl
    | true => have := listed_set hq (by omega); rw [h.tail j hj hjl] at this; cases this
  · intro j oj dj hj hjl hoj hdj
    by_cases e : j = i
    · subst e
      rw [ho] at hoj; cases hoj
      rw [hd] at hdj; cases hdj
      simp only [if_true]
      exact Array.getElem?_setIfInBounds_self_of_lt hdlt
    · have hjl' := listed_set hjl e
      have hne : d ≠ dj := fun e2 => by
        subst e2
        exact e ((ok.dst j oj hj hoj).2 i o hi ho (hdj.trans hd.symm))
      rw [Array.getElem?_setIfInBounds_ne hne, hval j (h.sub j hj hjl')]
      exact h.done j oj dj hj hjl' hoj hdj
  · intro t u ht hno
    have hil' : (listed.setIfInBounds i true).getD i false = true := by simp [show i < listed.size by rw [h.size]; exact hil]
    have hne : d ≠ t := fun e => by subst e; exact hno i o hi hil' ho hd
    rw [Array.getElem?_setIfInBounds_ne hne]
    exact h.old t u ht (fun j oj hj hjl hoj => hno j oj hj (listed_keep hjl) hoj)
theorem we_any (ok : DrawOk l g M) {K : Env → Mem → SHeap → SHeap → Prop} (hK : ∀ r m S U, K r m S U → WL P ro n w0 l.toArray Q (l.drop g) r ds m (S ++ U)) :
    ∀ (fuel k : Nat) (V : Nat) (r : Env) (m : Mem) (S U : SHeap) (val : Nat → Value) (listed : Array Bool) (tmps : Array Value) (w : World),
      WE P ro n w0 l g ds K k V r m S U → DInv P ro n w0 l g M ds S r0 V r m val listed tmps → Sat w0 m (S ++ U) w →
      ((List.range l.length).filter fun i => !listed.getD i false).length ≤ fuel → wpAnyIn (FW ro) 0 P .any l.toArray Q fuel listed ⟨tmps, marks ds⟩ w := by
  -- where all is done
  have final : ∀ (fuel : Nat) (V : Nat) (r : Env) (m : Mem) (S U : SHeap) (val : Nat → Value) (listed : Array Bool) (tmps : Array Value) (w : World), K r m S U → DInv P ro n w0 l g M ds S r0 V r m val listed tmps → Sat w0 m (S ++ U) w →
      (∀ i, i < g → listed.getD i false = true) → (∀ i, i < g → V.testBit i = true) → ((List.range l.length).filter fun i => !listed.getD i false).length ≤ fuel → wpAnyIn (FW ro) 0 P .any l.toArray Q fuel listed ⟨tmps, marks ds⟩ w := by
    intro fuel V r m S U val listed tmps w hk hI hs hall hV hf
    refine tail_any ok fuel g listed _ _ hI.size (Nat.le_refl _) ok.le (fun i hi => ⟨fun h => ?_, hall i⟩) ?_ ?_
    · rcases Nat.lt_or_ge i g with hlt | hge
      · exact hlt
      · rw [hI.tail i hge hi] at h; cases h
    · have : (List.range l.length).filter (fun i => !listed.getD i false) = (List.range l.length).filter (fun i => decide (g ≤ i)) := by
        apply List.filter_congr
        intro i hi
        have hi' := List.mem_range.1 hi
        rcases Nat.lt_or_ge i g with hlt | hge
        · rw [hall i hlt]; simp; omega
        · rw [hI.tail i hge hi']; simp [hge]
      rw [this] at hf
      have hcnt : l.length - g ≤ ((List.range l.length).filter (fun i => decide (g ≤ i))).length := by
        have hsub : List.Sublist (List.range' g (l.length - g)) ((List.range l.length).filter (fun i => decide (g ≤ i))) := by
          obtain ⟨k, hk⟩ : ∃ k, l.length = g + k := ⟨l.length - g, by have := ok.le; omega⟩
          have e : List.range l.length = List.range' 0 g ++ List.range' g (l.length - g) := by
            rw [List.range_eq_range', hk, Nat.add_sub_cancel_left]
            have := @List.range'_append 0 g k 1
            simpa using this.symm
          rw [e, List.filter_append]
          refine List.Sublist.trans ?_ (List.sublist_append_right _ _)
          rw [List.filter_eq_self.2 (fun i hi => by have := List.mem_range'_1.1 hi; simp; omega)]
          exact List.Sublist.refl _
        have := hsub.length_le
        simpa using this
      omega
    · refine hK r m S U hk tmps w ⟨hI.tsize, fun t u ht => ?_⟩ hs
      rcases hI.env t u ht with ⟨j, o, hj, _, hoj, hdj, hv⟩ | ⟨h0, hno⟩
      · rw [hI.done j o t hj (hall j hj) hoj hdj, hv]
      · exact hI.old t u h0 (fun j o hj hjl hoj => hno j o hj (hV j hj) hoj)
  intro fuel
  induction fuel with
  | zero =>
    intro k
    induction k with
    | zero => intro V r m S U val listed tmps w h; exact h.elim
    | succ k ihk =>
      intro V r m S U val listed tmps w h hI hs hf
      have hall : ∀ i, i < l.length → listed.getD i false = true := by
        intro i hi
        cases hq : listed.getD i false with
        | true => rfl
        | false =>
          exfalso
          have : i ∈ (List.range l.length).filter fun i => !listed.getD i false := by simp only [List.mem_filter, List.mem_range]; exact ⟨hi, by rw [hq]; rfl⟩
          have h0 := List.eq_nil_of_length_eq_zero (Nat.le_zero.1 hf)
          rw [h0] at this; cases this
      have hV : ∀ i, i < g → V.testBit i = true := fun i hi => hI.sub i hi (hall i (by have := ok.le; omega))
      rcases h with ⟨_, hk⟩ | ⟨i, o, d, v, hi, _, hVi, _⟩ | ⟨⟨i, hi, hVi⟩, _⟩
      · exact final 0 V r m S U val listed tmps w hk hI hs (fun i hi => hall i (by have := ok.le; omega)) hV hf
      · rw [hV i hi] at hVi; cases hVi
      · rw [hV i hi] at hVi; cases hVi
  | succ fuel ihf =>
    intro k
    induction k with
    | zero => intro V r m S U val listed tmps w h; exact h.elim
    | succ k ihk =>
      intro V r m S U val listed tmps w h hI hs hf
      by_cases hcalm : ∃ i o d v, i < g ∧ l[i]? = some o ∧ V.testBit i = false ∧ readyV V o ∧ o.dst = some d ∧ (∀ c, o.op ≠ .defer c) ∧
          (∀ m' F, m.le m' → WL P ro n w0 l.toArray (Q1 w0 d v ds m' (S ++ F)) [o] (Env.sel (o.looksAt l.toArray) r) ds m' (S ++ F)) ∧ WE P ro n w0 l g ds K k (V ||| 1 <<< i) ((d, v) :: r) m S U
      · obtain ⟨i, o, d, v, hi, ho, hV, hr, hd, hnd, hwl, hwe⟩ := hcalm
        exact ihk _ _ m S U _ listed tmps w hwe (hI.calm ok hi ho hV hr hd hnd hwl) hs hf
      -- an operation that is calm already, or one that acts
      have hcount : ∀ i, i < l.length → listed.getD i false = false → ((List.range l.length).filter fun k => !(listed.setIfInBounds i true).getD k false).length ≤ fuel := fun i hi hnl => by
        have := count_set hI.size hi hnl; omega
      by_cases hfin : ∀ i, i < g → listed.getD i false = true
      · have hV : ∀ i, i < g → V.testBit i = true := fun i hi => hI.sub i hi (hfin i hi)
        rcases h with ⟨_, hk⟩ | h | ⟨⟨i, hi, hVi⟩, _⟩
        · exact final _ V r m S U val listed tmps w hk hI hs hfin hV hf
        · exact absurd h hcalm
        · rw [hV i hi] at hVi; cases hVi
      refine ⟨fun hr => absurd (fun i hi => nothing_ready ok hI.size hr i (by have := ok.le; omega)) hfin, fun i hir => ?_⟩
      obtain ⟨h1, o, h2, h3⟩ := ready_of hir
      have hil := (List.getElem?_eq_some_iff.1 h2).1
      have hig : i < g := by
        rcases Nat.lt_or_ge i g with hlt | hge
        · exact hlt
        · exfalso
          refine hfin (fun k hk => ?_)
          exact mask_listed ok hI.closed i o h2 h3 k (ok.all i hge hil k (by omega))
      have hnl : listed.getD i false = false := by
        have hsz := hI.size
        simp only [Array.getD_eq_getD_getElem?] at h1 ⊢
        rw [Array.getElem?_eq_getElem (by omega)] at h1 ⊢
        exact h1
      cases hVi : V.testBit i with
      | true =>
        refine hI.deferred ok hs hig h2 hVi hnl h3 (fun tmps' w' hI' hs' => ?_)
        exact ihf (k + 1) V r m S U val _ tmps' w' h hI' hs' (hcount i hil hnl)
      | false =>
        rcases h with ⟨hV, _⟩ | h | ⟨_, h⟩
        · rw [hV i hig] at hVi; cases hVi
        · exact absurd h hcalm
        · have hrV : readyV V o := fun e he hb => hI.sub e.on (by have := ok.down i o h2 e he hb; omega) (h3 e he hb)
          obtain ⟨d, hd, hnd, hwl⟩ := h i o hig h2 hVi hrV
          refine wpOp_of_post (by simpa using h2) hd hnd ?_ ?_ (hwl tmps w ⟨hI.tsize, fun t u ht => ?_⟩ hs) ?_
          · rintro a w ⟨v, m', B, U', _, hdf, _⟩; exact hdf
          · intro e a w hq
            cases e <;> first | rfl | exact hq.elim
          · obtain ⟨hlook, hget⟩ := Env.sel_get ht
            rcases hI.env t u hget with ⟨j, oj, hj, hjV, hoj, hdj, hv⟩ | ⟨h0, hno⟩
            · rcases ok.reads i o hig h2 t hlook j oj hj hoj hdj with ⟨_, e, he, hb, hon⟩ | ⟨_, hbit⟩
              · have := h3 e he hb
                rw [hon] at this
                rw [hI.done j oj t hj this hoj hdj, hv]
              · have := hI.vmask ok hj hoj (hI.vclosed j oj hj hoj hjV) hbit
                rw [hVi] at this; cases this
            · exact hI.old t u h0 (fun j oj hj hjl hoj => hno j oj hj (hI.sub j hj hjl) hoj)
          · rintro v0 w' ⟨v, m', B, U', hv, _, hm, hs', hwe⟩
            have hdlt : d < tmps.size := by
              rcases Nat.lt_or_ge d tmps.size with hlt | hge
              · exact hlt
              · simp only at hv
                rw [Array.getElem?_eq_none (by simpa using hge)] at hv; cases hv
            have hv0 : v0 = v := by
              simp only at hv
              rw [Array.getElem?_setIfInBounds_self_of_lt hdlt] at hv
              exact Option.some.inj hv
            subst hv0
            exact ihf k _ _ m' (S ++ B) U' _ _ _ w' hwe (hI.act ok hig h2 hVi h3 hd hm hdlt) hs' (hcount i hil hnl)
end sound
def readyB (V : Nat) (o : Oper) : Bool := o.after.all fun e => !bind1 e || V.testBit e.on
theorem readyB_iff {V : Nat} {o : Oper} : readyB V o = true ↔ readyV V o := by
  unfold readyB readyV
  rw [Array.all_eq_true']
  constructor
  · intro h e he hb
    have := h e he
    simpa [hb] using this
  · intro h e he
    cases hb : bind1 e with
    | false => simp
    | true => simp [h e he hb]
/-- no operation but these may come next -/
def onlyB (l : List Oper) (g V : Nat) (js : List Nat) : Bool :=
  ((List.range g).any fun i => !V.testBit i) && ((List.range g).all fun i => V.testBit i || js.contains i || match l[i]? with | some o => !readyB V o | none => true)
theorem onlyB_ok {l : List Oper} {g V : Nat} {js : List Nat} (h : onlyB l g V js = true) : (∃ i, i < g ∧ V.testBit i = false) ∧ ∀ i o, i < g → l[i]? = some o → V.testBit i = false → readyV V o → i ∈ js := by
  unfold onlyB at h
  rw [Bool.and_eq_true] at h
  constructor
  · obtain ⟨i, hi, hV⟩ := List.any_eq_true.1 h.1
    exact ⟨i, List.mem_range.1 hi, by simpa using hV⟩
  · intro i o hi ho hV hr
    have := List.all_eq_true.1 h.2 i (List.mem_range.2 hi)
    have hrb := readyB_iff.2 hr
    rw [ho, hV] at this
    simpa [hrb] using this
section build
variable {l : List Oper} {g : Nat} {S U : SHeap} {K : Env → Mem → SHeap → SHeap → Prop} {k V : Nat}
theorem WE.done (h : ((List.range g).all fun i => V.testBit i) = true) (hK : K r m S U) : WE P ro n w0 l g ds K (k + 1) V r m S U :=
  .inl ⟨fun i hi => List.all_eq_true.1 h i (List.mem_range.2 hi), hK⟩
theorem WE.calm (i : Nat) {o : Oper} {d : Nat} {v : Value} (hV : V.testBit i = false) (hi : Nat.blt i g = true) (ho : l[i]? = some o) (hr : readyB V o = true) (hd : o.dst = some d) (hnd : ∀ c, o.op ≠ .defer c)
    (hwl : ∀ m' F, m.le m' → WL P ro n w0 l.toArray (Q1 w0 d v ds m' (S ++ F)) [o] (Env.sel (o.looksAt l.toArray) r) ds m' (S ++ F))
    (h : WE P ro n w0 l g ds K k (V ||| 1 <<< i) ((d, v) :: r) m S U) : WE P ro n w0 l g ds K (k + 1) V r m S U :=
  .inr (.inl ⟨i, o, d, v, by simpa [Nat.blt_eq] using hi, ho, hV, readyB_iff.1 hr, hd, hnd, hwl, h⟩)
/-- what one that acts owes -/
def Acts (P : Program) (ro : Option Nat) (n : Nat) (w0 : World) (l : List Oper) (g : Nat) (ds : List Nat) (K : Env → Mem → SHeap → SHeap → Prop) (k V : Nat) (r : Env) (m : Mem) (S U : SHeap) (i : Nat) : Prop :=
  ∃ o d, l[i]? = some o ∧ o.dst = some d ∧ (∀ c, o.op ≠ .defer c) ∧
    WL P ro n w0 l.toArray (QE w0 d ds S m fun v m' S' U' => WE P ro n w0 l g ds K k (V ||| 1 <<< i) ((d, v) :: r) m' S' U') [o] (Env.sel (o.looksAt l.toArray) r) ds m (S ++ U)
theorem WE.acts (js : List Nat) (h : onlyB l g V js = true) (hj : ∀ i ∈ js, Acts P ro n w0 l g ds K k V r m S U i) : WE P ro n w0 l g ds K (k + 1) V r m S U := by
  obtain ⟨h1, h2⟩ := onlyB_ok h
  refine .inr (.inr ⟨h1, fun i o hi ho hV hr => ?_⟩)
  obtain ⟨o', d, ho', hd, hnd, hwl⟩ := hj i (h2 i o hi ho hV hr)
  rw [ho] at ho'; cases ho'
  exact ⟨d, hd, hnd, hwl⟩
theorem WE.act1 (i : Nat) {o : Oper} {d : Nat} (h : onlyB l g V [i] = true) (ho : l[i]? = some o) (hd : o.dst = some d) (hnd : ∀ c, o.op ≠ .defer c)
    (hwl : WL P ro n w0 l.toArray (QE w0 d ds S m fun v m' S' U' => WE P ro n w0 l g ds K k (V ||| 1 <<< i) ((d, v) :: r) m' S' U') [o] (Env.sel (o.looksAt l.toArray) r) ds m (S ++ U)) : WE P ro n w0 l g ds K (k + 1) V r m S U :=
  .acts [i] h (fun j hj => by rw [List.mem_singleton] at hj; subst hj; exact ⟨o, d, ho, hd, hnd, hwl⟩)
theorem WE.act2 (i j : Nat) {o o' : Oper} {d d' : Nat} (h : onlyB l g V [i, j] = true) (ho : l[i]? = some o) (hd : o.dst = some d) (hnd : ∀ c, o.op ≠ .defer c) (ho' : l[j]? = some o') (hd' : o'.dst = some d') (hnd' : ∀ c, o'.op ≠ .defer c)
    (hwl : WL P ro n w0 l.toArray (QE w0 d ds S m fun v m' S' U' => WE P ro n w0 l g ds K k (V ||| 1 <<< i) ((d, v) :: r) m' S' U') [o] (Env.sel (o.looksAt l.toArray) r) ds m (S ++ U))
    (hwl' : WL P ro n w0 l.toArray (QE w0 d' ds S m fun v m' S' U' => WE P ro n w0 l g ds K k (V ||| 1 <<< j) ((d', v) :: r) m' S' U') [o'] (Env.sel (o'.looksAt l.toArray) r) ds m (S ++ U)) : WE P ro n w0 l g ds K (k + 1) V r m S U :=
  .acts [i, j] h (fun q hq => by
    rcases List.mem_cons.1 hq with rfl | hq
    · exact ⟨o, d, ho, hd, hnd, hwl⟩
    · rw [List.mem_singleton] at hq; subst hq; exact ⟨o', d', ho', hd', hnd', hwl'⟩)
end build
/-- a region that draws its order, where some operations act -/
theorem WC.drawE {id : Nat} {l : List Oper} (g : Nat) (S U : SHeap) (hm : P.follows .mixedOrders = true) (hc : drawB l g = true) (hS : ∀ w, Sat w0 m H w → Sat w0 m (S ++ U) w)
    (h : WE P ro n w0 l g ds (fun r' m' S' U' => WL P ro n w0 l.toArray Q (l.drop g) r' ds m' (S' ++ U')) 200 0 r m S U) : WC P ro n w0 (.region id l.toArray true) Q r ds m H := by
  intro tmps w ho hs
  have ok := drawB_ok hc
  refine wpIn_region_draw fun t => ?_
  simp only [Region.schedule, hm, Bool.true_or, if_true]
  refine wpAnyIn_sound _ _ _ _ _ ?_
  have hz : ∀ k, (Array.replicate l.length false).getD k false = false := by
    intro k
    simp only [Array.getD_eq_getD_getElem?]
    by_cases hk : k < l.length
    · simp [hk]
    · rw [Array.getElem?_eq_none (by simpa using hk)]; rfl
  have hsz : l.toArray.size = l.length := by simp
  rw [hsz]
  refine we_any (r0 := r) ok (fun _ _ _ _ h => h) l.length 200 0 r m S U (fun _ => undef) _ tmps _ h ?_ (hS _ hs.drew) ?_
  · refine ⟨fun t u ht => .inr ⟨ht, fun j o _ hj => ?_⟩, fun j o _ _ hj => ?_, fun i o _ _ hj => ?_, by simp, fun j o _ hj => ?_, fun j _ hj => ?_, fun j _ _ => hz j, ho.size, fun j o d _ hj => ?_, fun t u ht _ => ho.at_ t u ht⟩
    · simp at hj
    · simp at hj
    · simp at hj
    · rw [hz] at hj; cases hj
    · rw [hz] at hj; cases hj
    · rw [hz] at hj; cases hj
  · exact Nat.le_trans (List.length_filter_le _ _) (by simp)
end
end Go.Eng

/-
  A walk's engine, nineteenth part: arrays by their address: elements, slices of them, and what is copied there. No condition.
-/
set_option linter.all false
namespace Go.Eng
open Go Go.RowKit
section
variable {P : Program} {ro : Option Nat} {n : Nat} {w0 : World} {Q : Exit → Act → World → Prop} {r : Env} {ds : List Nat} {m : Mem} {H : SHeap}
  {ops : Array Oper} {l : List Oper} {d : Nat} {ty : TypeId} {pos : String} {after : Array Edge} {t t' : TypeId} {x y : Operand}
theorem WL.indexAddrA {e : TypeId} {b o k sz i q : Nat} {ki : IntKind} {z : Int} (hx : r.ev x = some (.pointer (some ⟨b, o, none⟩))) (hy : r.ev y = some (.int ki z)) (hz : z = (i : Int)) (hu : P.underlying t = some (.array k e)) (hsz : sizeB P e = some sz)
    (hi : i < k) (hd : Nat.blt d n = true) (hq : lit (o + i * sz) = some q) (h : WL P ro n w0 ops Q l ((d, .pointer (some ⟨b, q, none⟩)) :: r) ds m H) :
    WL P ro n w0 ops Q (⟨some d, .indexAddr t x y, ty, pos, after, none⟩ :: l) r ds m H := by
  rw [lit_eq] at hq
  have hq := Option.some.inj hq
  subst hz; subst hq
  refine .val hd (fun _ h => by cases h) (fun tmps w ho _ => ?_) h
  have h1 : (0 : Int) ≤ (i : Int) ∧ (i : Int) < (k : Int) := by omega
  simp only [execOp, Instr.indexAt, asIntOf, Instr.sureAddr, ho.ev hx, ho.ev hy, Sem.run_bind, Sem.run_pure, Result.andThen_ok, run_underlying hu]
  simp [h1, run_size hsz, add_none]
theorem WL.slArrH {e : TypeId} {b o k sz q : Nat} {kh : IntKind} {hi : Operand} {j : Int} (hx : r.ev x = some (.pointer (some ⟨b, o, none⟩))) (hh : r.ev hi = some (.int kh j)) (hj : j = (q : Int)) (hu : P.underlying t = some (.array k e)) (hsz : sizeB P e = some sz)
    (hd : Nat.blt d n = true) (hb : q ≤ k) (h : WL P ro n w0 ops Q l ((d, .slice (some ⟨b, o, none⟩) q k) :: r) ds m H) :
    WL P ro n w0 ops Q (⟨some d, .slice t x none (some hi) none, ty, pos, after, none⟩ :: l) r ds m H :=
  .val hd (fun _ h => by cases h) (fun tmps w ho _ => by
    subst hj
    have e2 := bound_ok (P := P) (i := (q : Int)) (k := kh) (y := k) (by omega) (by omega) .sliceAlen w
    simp only [execOp, Option.map_some, Option.map_none, Sem.run_bind, ho.ev hx, ho.ev hh, Instr.sliceAt, run_underlying hu, Instr.sureAddr, Instr.sliceBounds, Sem.run_pure, Result.andThen_ok]
    simp [e2, Result.andThen, run_size hsz, add_none]) h
theorem WL.slArr {e : TypeId} {b o k sz : Nat} (hx : r.ev x = some (.pointer (some ⟨b, o, none⟩))) (hu : P.underlying t = some (.array k e)) (hsz : sizeB P e = some sz)
    (hd : Nat.blt d n = true) (h : WL P ro n w0 ops Q l ((d, .slice (some ⟨b, o, none⟩) k k) :: r) ds m H) :
    WL P ro n w0 ops Q (⟨some d, .slice t x none none none, ty, pos, after, none⟩ :: l) r ds m H :=
  .val hd (fun _ h => by cases h) (fun tmps w ho _ => by
    simp only [execOp, Option.map_some, Option.map_none, Sem.run_bind, ho.ev hx, Instr.sliceAt, run_underlying hu, Instr.sureAddr, Instr.sliceBounds, Sem.run_pure, Result.andThen_ok]
    simp [Result.andThen, run_size hsz, add_none]) h
/-- a text copied into an array -/
theorem WL.copyS {e tx : TypeId} {b o k cap : Nat} {s : List UInt8} {T : TypeId} {L L' : List Value} {H' : SHeap} (hx : r.ev x = some (.slice (some ⟨b, o, none⟩) k cap)) (hy : r.ev y = some (str s)) (hle : s.length ≤ k)
    (hu : P.underlying t = some (.slice e)) (hsz : sizeB P e = some 1) (hut : P.underlying tx = some .string) (hr : Repl (.blk b (.cells L.toArray T (0, 0))) (.blk b (.cells L'.toArray T (0, 0))) H H') (hl : o + s.length ≤ L.length)
    (hL : laid L o (s.map fun b => Value.int .u8 (b.toNat : Int)) = L') (hd : Nat.blt d n = true) (h : WL P ro n w0 ops Q l ((d, .int .i64 (s.length : Int)) :: r) ds m H') :
    WL P ro n w0 ops Q (⟨some d, .call ⟨.builtin .copy, #[x, y], #[t, tx]⟩, ty, pos, after, none⟩ :: l) r ds m H := by
  subst hL
  refine .gen (fun v m' H'' => v = .int .i64 (s.length : Int) ∧ m' = m ∧ H'' = H') hd (fun _ h => by cases h) (fun tmps w ho hs => ?_) (by rintro _ _ _ ⟨rfl, rfl, rfl⟩; exact h)
  obtain ⟨H1, p1, p2⟩ := hr.perm
  have hsrc := Source.str (P := P) (w0 := w0) (m := m) (H := H) hut s w hs
  obtain ⟨w', h1, h2⟩ := run_laid (P := P) (s.map fun b => Value.int .u8 (b.toNat : Int)) 0 o L H1 w (by simpa using hl) (.inl rfl) (List.all_eq_true.2 fun u hu => hsrc.one u hu) (hs.perm p1)
  refine ⟨_, m, H', w', ?_, h2.perm p2.symm, rfl, rfl, rfl⟩
  have hmin : Nat.min s.length k = s.length := Nat.min_eq_left hle
  have hrun : (Builtin.copy_ #[t, tx] ty #[.slice (some ⟨b, o, none⟩) k cap, str s]).run P w = .ok (.int .i64 (s.length : Int)) w' := by
    simp [Builtin.copy_, run_underlying hu, run_size hsz, hsrc.len, hmin, hsrc.cells, h1, goInt]
  simp only [execOp, resolve, invoke, builtin, Sem.run_bind, Sem.run_pure, Result.andThen_ok, List.map_toArray, List.map_cons, List.map_nil, ho.ev hx, ho.ev hy, hrun]
/-- an array's bytes as a text -/
theorem WL.bytesBlk {src dst e : TypeId} {b k cap : Nat} {T : TypeId} {fz : Nat × Nat} {L : List Value} {s : List UInt8} (hx : r.ev x = some (.slice (some ⟨b, 0, none⟩) k cap)) (hm : Item.blk b (.cells L.toArray T fz) ∈ H)
    (hL : L.take k = s.map fun b => Value.int .u8 (b.toNat : Int)) (hk : k = s.length) (hs1 : P.underlying src = some (.slice e)) (hs2 : P.underlying dst = some .string) (hs3 : P.underlying e = some (.int .u8)) (hsz : sizeB P e = some 1) (hd : Nat.blt d n = true)
    (h : WL P ro n w0 ops Q l ((d, str s) :: r) ds m H) : WL P ro n w0 ops Q (⟨some d, .convert src dst x, ty, pos, after, none⟩ :: l) r ds m H := by
  subst hk
  refine .bytesStr hx hs1 hs2 hs3 hsz (.inr ⟨_, _, rfl, fun w hs j v hj => ?_⟩) hd h
  rw [add_none]
  rw [← hL, List.getElem?_take] at hj
  split at hj
  · exact Cell.blk hm (by simpa using hj) w hs
  · cases hj
end
end Go.Eng

/-
  The walks of a Feed's methods: Held, tell, Put, End. No condition.
-/
namespace Go.Eng
open Go Go.RowKit
section
variable {P : Program} {ro : Option Nat} {n : Nat} {w0 : World} {Q : Exit → Act → World → Prop} {r : Env} {ds : List Nat} {m : Mem} {H : SHeap} {ops : Array Oper} {l : List Oper}
theorem WL.heap {H' : SHeap} (hh : ∀ w, Sat w0 m H w → Sat w0 m H' w) (h : WL P ro n w0 ops Q l r ds m H') : WL P ro n w0 ops Q l r ds m H := fun tmps w ho hs => h tmps w ho (hh w hs)
end
/-- a Feed's cells -/
def feedC (x y z : Int) (n a : Nat) : List Value := [.int .u8 x, .int .u8 y, .int .u8 z, .int .i64 (n : Int), .int .i64 (a : Int)]
theorem feed_take {x y z : Int} {n a : Nat} {h : List UInt8} (hn : n ≤ 3) (hh : [x, y, z].take n = h.map fun b => (b.toNat : Int)) : (feedC x y z n a).take n = h.map fun b => Value.int .u8 (b.toNat : Int) := by
  have e : (feedC x y z n a).take n = ([x, y, z].take n).map (Value.int .u8) := by
    rcases (show n = 0 ∨ n = 1 ∨ n = 2 ∨ n = 3 by omega) with rfl | rfl | rfl | rfl <;> rfl
  rw [e, hh, List.map_map]; rfl
theorem feed_len {x y z : Int} {n : Nat} {h : List UInt8} (hn : n ≤ 3) (hh : [x, y, z].take n = h.map fun b => (b.toNat : Int)) : n = h.length := by
  have := congrArg List.length hh
  simp at this; omega
theorem feed_laid (x y z : Int) (n a : Nat) : ∀ s : List UInt8, s.length ≤ 3 → ∃ x' y' z', laid (feedC x y z n a) 0 (s.map fun b => Value.int .u8 (b.toNat : Int)) = feedC x' y' z' n a ∧ [x', y', z'].take s.length = s.map fun b => (b.toNat : Int)
  | [], _ => ⟨x, y, z, rfl, rfl⟩
  | [b], _ => ⟨b.toNat, y, z, rfl, rfl⟩
  | [b, c], _ => ⟨b.toNat, c.toNat, z, rfl, rfl⟩
  | [b, c, d], _ => ⟨b.toNat, c.toNat, d.toNat, rfl, rfl⟩
  | _ :: _ :: _ :: _ :: _, h => by simp at h
end Go.Eng
namespace Go.Proofs.Ytdmdabjaboigcaa
open Go Go.Eng
set_option maxRecDepth 100000
set_option maxHeartbeats 4000000
set_option linter.all false
attribute [local irreducible] WL WC WQ QFun QLoop Does Q1 QRound QAssign Go.Addr.add
theorem sq_R35_1 {G : Prop} (h : G := by (repeat (first | (refine sp ?_; (repeat intro zzc)) | (refine WL.slArrH rfl rfl (by (first | with_reducible exact natz _ | with_reducible exact natz0 | with_reducible exact natz1 | with_reducible exact natz2 | with_reducible exact natz3 | with_reducible exact natz4 | with_reducible exact natz8 | (apply natz_add; (· first | with_reducible exact natz _ | with_reducible exact natz0 | with_reducible exact natz1 | with_reducible exact natz2 | with_reducible exact natz3 | with_reducible exact natz4 | with_reducible exact natz8); (· first | with_reducible exact natz _ | with_reducible exact natz0 | with_reducible exact natz1 | with_reducible exact natz2 | with_reducible exact natz3 | with_reducible exact natz4 | with_reducible exact natz8)) | (apply natz_sub; (· first | with_reducible exact natz _ | with_reducible exact natz0 | with_reducible exact natz1 | with_reducible exact natz2 | with_reducible exact natz3 | with_reducible exact natz4 | with_reducible exact natz8); (· first | with_reducible exact natz _ | with_reducible exact natz0 | with_reducible exact natz1 | with_reducible exact natz2 | with_reducible exact natz3 | with_reducible exact natz4 | with_reducible exact natz8); (· omega)) | exact (Int.toNat_of_nonneg (by omega)).symm)) rfl rfl rfl (by omega) ?_) | (refine iConv rfl ?_; refine WL.bytesBlk rfl (by (repeat (first | exact List.Mem.head _ | apply List.Mem.tail))) (by assumption) (by assumption) rfl rfl rfl rfl rfl ?_))); exact WQ.q1 rfl) : G := h
theorem st_R35_1 {G G' : Prop} (next : G') (h : Bx G' → G := by intro zzn; (first | ((refine st ?_; (repeat intro zzc)); (try ((first | (refine WL.slArrH rfl rfl (by (first | with_reducible exact natz _ | with_reducible exact natz0 | with_reducible exact natz1 | with_reducible exact natz2 | with_reducible exact natz3 | with_reducible exact natz4 | with_reducible exact natz8 | (apply natz_add; (· first | with_reducible exact natz _ | with_reducible exact natz0 | with_reducible exact natz1 | with_reducible exact natz2 | with_reducible exact natz3 | with_reducible exact natz4 | with_reducible exact natz8); (· first | with_reducible exact natz _ | with_reducible exact natz0 | with_reducible exact natz1 | with_reducible exact natz2 | with_reducible exact natz3 | with_reducible exact natz4 | with_reducible exact natz8)) | (apply natz_sub; (· first | with_reducible exact natz _ | with_reducible exact natz0 | with_reducible exact natz1 | with_reducible exact natz2 | with_reducible exact natz3 | with_reducible exact natz4 | with_reducible exact natz8); (· first | with_reducible exact natz _ | with_reducible exact natz0 | with_reducible exact natz1 | with_reducible exact natz2 | with_reducible exact natz3 | with_reducible exact natz4 | with_reducible exact natz8); (· omega)) | exact (Int.toNat_of_nonneg (by omega)).symm)) rfl rfl rfl (by omega) ?_) | (refine iConv rfl ?_; refine WL.bytesBlk rfl (by (repeat (first | exact List.Mem.head _ | apply List.Mem.tail))) (by assumption) (by assumption) rfl rfl rfl rfl rfl ?_) | ((refine iDraw ?_; (first | refine WC.drawAll rfl (by decide +kernel) ?_ | refine WC.draw 1 rfl (by decide +kernel) ?_ | refine WC.draw 2 rfl (by decide +kernel) ?_ | refine WC.draw 3 rfl (by decide +kernel) ?_ | refine WC.draw 4 rfl (by decide +kernel) ?_ | refine WC.draw 5 rfl (by decide +kernel) ?_ | refine WC.draw 6 rfl (by decide +kernel) ?_ | refine WC.draw 7 rfl (by decide +kernel) ?_ | refine WC.draw 8 rfl (by decide +kernel) ?_ | refine WC.draw 9 rfl (by decide +kernel) ?_ | refine WC.draw 10 rfl (by decide +kernel) ?_ | refine WC.draw 11 rfl (by decide +kernel) ?_ | refine WC.draw 12 rfl (by decide +kernel) ?_ | refine WC.draw 13 rfl (by decide +kernel) ?_ | refine WC.draw 14 rfl (by decide +kernel) ?_ | refine WC.draw 15 rfl (by decide +kernel) ?_ | refine WC.draw 16 rfl (by decide +kernel) ?_ | refine WC.draw 17 rfl (by decide +kernel) ?_ | refine WC.draw 18 rfl (by decide +kernel) ?_ | refine WC.draw 19 rfl (by decide +kernel) ?_ | refine WC.draw 20 rfl (by decide +kernel) ?_ | refine WC.draw 21 rfl (by decide +kernel) ?_ | refine WC.draw 22 rfl (by decide +kernel) ?_ | refine WC.draw 23 rfl (by decide +kernel) ?_ | refine WC.draw 24 rfl (by decide +kernel) ?_)); (repeat (refine WD.cons rfl (fun c h => by cases h) sq_R35_1 ?_)); refine WD.nil ?_)); (try (refine st ?_; (repeat intro zzc)))))) | ((first | (refine WL.slArrH rfl rfl (by (first | with_reducible exact natz _ | with_reducible exact natz0 | with_reducible exact natz1 | with_reducible exact natz2 | with_reducible exact natz3 | with_reducible exact natz4 | with_reducible exact natz8 | (apply natz_add; (· first | with_reducible exact natz _ | with_reducible exact natz0 | with_reducible exact natz1 | with_reducible exact natz2 | with_reducible exact natz3 | with_reducible exact natz4 | with_reducible exact natz8); (· first | with_reducible exact natz _ | with_reducible exact natz0 | with_reducible exact natz1 | with_reducible exact natz2 | with_reducible exact natz3 | with_reducible exact natz4 | with_reducible exact natz8)) | (apply natz_sub; (· first | with_reducible exact natz _ | with_reducible exact natz0 | with_reducible exact natz1 | with_reducible exact natz2 | with_reducible exact natz3 | with_reducible exact natz4 | with_reducible exact natz8); (· first | with_reducible exact natz _ | with_reducible exact natz0 | with_reducible exact natz1 | with_reducible exact natz2 | with_reducible exact natz3 | with_reducible exact natz4 | with_reducible exact natz8); (· omega)) | exact (Int.toNat_of_nonneg (by omega)).symm)) rfl rfl rfl (by omega) ?_) | (refine iConv rfl ?_; refine WL.bytesBlk rfl (by (repeat (first | exact List.Mem.head _ | apply List.Mem.tail))) (by assumption) (by assumption) rfl rfl rfl rfl rfl ?_) | ((refine iDraw ?_; (first | refine WC.drawAll rfl (by decide +kernel) ?_ | refine WC.draw 1 rfl (by decide +kernel) ?_ | refine WC.draw 2 rfl (by decide +kernel) ?_ | refine WC.draw 3 rfl (by decide +kernel) ?_ | refine WC.draw 4 rfl (by decide +kernel) ?_ | refine WC.draw 5 rfl (by decide +kernel) ?_ | refine WC.draw 6 rfl (by decide +kernel) ?_ | refine WC.draw 7 rfl (by decide +kernel) ?_ | refine WC.draw 8 rfl (by decide +kernel) ?_ | refine WC.draw 9 rfl (by decide +kernel) ?_ | refine WC.draw 10 rfl (by decide +kernel) ?_ | refine WC.draw 11 rfl (by decide +kernel) ?_ | refine WC.draw 12 rfl (by decide +kernel) ?_ | refine WC.draw 13 rfl (by decide +kernel) ?_ | refine WC.draw 14 rfl (by decide +kernel) ?_ | refine WC.draw 15 rfl (by decide +kernel) ?_ | refine WC.draw 16 rfl (by decide +kernel) ?_ | refine WC.draw 17 rfl (by decide +kernel) ?_ | refine WC.draw 18 rfl (by decide +kernel) ?_ | refine WC.draw 19 rfl (by decide +kernel) ?_ | refine WC.draw 20 rfl (by decide +kernel) ?_ | refine WC.draw 21 rfl (by decide +kernel) ?_ | refine WC.draw 22 rfl (by decide +kernel) ?_ | refine WC.draw 23 rfl (by decide +kernel) ?_ | refine WC.draw 24 rfl (by decide +kernel) ?_)); (repeat (refine WD.cons rfl (fun c h => by cases h) sq_R35_1 ?_)); refine WD.nil ?_)); (try (refine st ?_; (repeat intro zzc))))); (repeat ((first | (refine WL.slArrH rfl rfl (by (first | with_reducible exact natz _ | with_reducible exact natz0 | with_reducible exact natz1 | with_reducible exact natz2 | with_reducible exact natz3 | with_reducible exact natz4 | with_reducible exact natz8 | (apply natz_add; (· first | with_reducible exact natz _ | with_reducible exact natz0 | with_reducible exact natz1 | with_reducible exact natz2 | with_reducible exact natz3 | with_reducible exact natz4 | with_reducible exact natz8); (· first | with_reducible exact natz _ | with_reducible exact natz0 | with_reducible exact natz1 | with_reducible exact natz2 | with_reducible exact natz3 | with_reducible exact natz4 | with_reducible exact natz8)) | (apply natz_sub; (· first | with_reducible exact natz _ | with_reducible exact natz0 | with_reducible exact natz1 | with_reducible exact natz2 | with_reducible exact natz3 | with_reducible exact natz4 | with_reducible exact natz8); (· first | with_reducible exact natz _ | with_reducible exact natz0 | with_reducible exact natz1 | with_reducible exact natz2 | with_reducible exact natz3 | with_reducible exact natz4 | with_reducible exact natz8); (· omega)) | exact (Int.toNat_of_nonneg (by omega)).symm)) rfl rfl rfl (by omega) ?_) | (refine iConv rfl ?_; refine WL.bytesBlk rfl (by (repeat (first | exact List.Mem.head _ | apply List.Mem.tail))) (by assumption) (by assumption) rfl rfl rfl rfl rfl ?_) | ((refine iDraw ?_; (first | refine WC.drawAll rfl (by decide +kernel) ?_ | refine WC.draw 1 rfl (by decide +kernel) ?_ | refine WC.draw 2 rfl (by decide +kernel) ?_ | refine WC.draw 3 rfl (by decide +kernel) ?_ | refine WC.draw 4 rfl (by decide +kernel) ?_ | refine WC.draw 5 rfl (by decide +kernel) ?_ | refine WC.draw 6 rfl (by decide +kernel) ?_ | refine WC.draw 7 rfl (by decide +kernel) ?_ | refine WC.draw 8 rfl (by decide +kernel) ?_ | refine WC.draw 9 rfl (by decide +kernel) ?_ | refine WC.draw 10 rfl (by decide +kernel) ?_ | refine WC.draw 11 rfl (by decide +kernel) ?_ | refine WC.draw 12 rfl (by decide +kernel) ?_ | refine WC.draw 13 rfl (by decide +kernel) ?_ | refine WC.draw 14 rfl (by decide +kernel) ?_ | refine WC.draw 15 rfl (by decide +kernel) ?_ | refine WC.draw 16 rfl (by decide +kernel) ?_ | refine WC.draw 17 rfl (by decide +kernel) ?_ | refine WC.draw 18 rfl (by decide +kernel) ?_ | refine WC.draw 19 rfl (by decide +kernel) ?_ | refine WC.draw 20 rfl (by decide +kernel) ?_ | refine WC.draw 21 rfl (by decide +kernel) ?_ | refine WC.draw 22 rfl (by decide +kernel) ?_ | refine WC.draw 23 rfl (by decide +kernel) ?_ | refine WC.draw 24 rfl (by decide +kernel) ?_)); (repeat (refine WD.cons rfl (fun c h => by cases h) sq_R35_1 ?_)); refine WD.nil ?_)); (try (refine st ?_; (repeat intro zzc))))); (repeat revert zzc); exact zzn.out) : G := h ⟨next⟩
theorem held_any {f : Nat} {x y z : Int} {n a : Nat} {h : List UInt8} (hn : n ≤ 3) (hh : [x, y, z].take n = h.map fun b => (b.toNat : Int)) (w0 : World) (m : Mem) (H : SHeap) :
    Does Try.prog 65 #[.pointer (some ⟨f, 0, none⟩)] w0 m (.blk f (.cells [.int .u8 x, .int .u8 y, .int .u8 z, .int .i64 (n : Int), .int .i64 (a : Int)].toArray 100 (0, 0)) :: H) (Gives (str h) m (.blk f (.cells [.int .u8 x, .int .u8 y, .int .u8 z, .int .i64 (n : Int), .int .i64 (a : Int)].toArray 100 (0, 0)) :: H)) := by
  refine Does.of_body (args := [.pointer (some ⟨f, 0, none⟩)]) Try.func65 rfl Try.ntmps65 rfl ?_
  have h1 : [Value.int .u8 x, .int .u8 y, .int .u8 z, .int .i64 (n : Int), .int .i64 (a : Int)].take n = h.map fun b => Value.int .u8 (b.toNat : Int) := feed_take hn hh
  have h2 := feed_len hn hh
  have h3 : (some (⟨f, 0, none⟩ : Addr)).isNone = false := rfl
  (try (refine st_R35_1 ?_; intros))
  exact q_fin0 (H0 := .blk f (.cells [.int .u8 x, .int .u8 y, .int .u8 z, .int .i64 (n : Int), .int .i64 (a : Int)].toArray 100 (0, 0)) :: H) (Gives.mk rfl) (hd := (fun w h => Pick.sat (by iterate 60 (try (first | exact Pick.all | (apply Pick.take; (· (repeat (first | exact Out.here | apply Out.there)))) | apply Pick.drop))) h))
theorem held_nil (w0 : World) (m : Mem) (H : SHeap) : Does Try.prog 65 #[.pointer none] w0 m H (Gives (str []) m H) := by
  refine Does.of_body (args := [.pointer none]) Try.func65 rfl Try.ntmps65 rfl ?_
  have h3 : (none : Option Addr).isNone = true := rfl
  (try (refine st_R35_1 ?_; intros))
  (refine q_fin0 ?_)
  exact Gives.mk rfl
theorem sq_R35_2 {G : Prop} (h : G := by (repeat (first | (refine sp ?_; (repeat intro zzc)) | (refine WL.slArrH rfl rfl (by (first | with_reducible exact natz _ | with_reducible exact natz0 | with_reducible exact natz1 | with_reducible exact natz2 | with_reducible exact natz3 | with_reducible exact natz4 | with_reducible exact natz8 | (apply natz_add; (· first | with_reducible exact natz _ | with_reducible exact natz0 | with_reducible exact natz1 | with_reducible exact natz2 | with_reducible exact natz3 | with_reducible exact natz4 | with_reducible exact natz8); (· first | with_reducible exact natz _ | with_reducible exact natz0 | with_reducible exact natz1 | with_reducible exact natz2 | with_reducible exact natz3 | with_reducible exact natz4 | with_reducible exact natz8)) | (apply natz_sub; (· first | with_reducible exact natz _ | with_reducible exact natz0 | with_reducible exact natz1 | with_reducible exact natz2 | with_reducible exact natz3 | with_reducible exact natz4 | with_reducible exact natz8); (· first | with_reducible exact natz _ | with_reducible exact natz0 | with_reducible exact natz1 | with_reducible exact natz2 | with_reducible exact natz3 | with_reducible exact natz4 | with_reducible exact natz8); (· omega)) | exact (Int.toNat_of_nonneg (by omega)).symm)) rfl rfl rfl (by omega) ?_) | (refine iConv rfl ?_; refine WL.bytesBlk rfl (by (repeat (first | exact List.Mem.head _ | apply List.Mem.tail))) (by assumption) (by assumption) rfl rfl rfl rfl rfl ?_) | (refine WL.slArr rfl rfl rfl rfl ?_) | (refine iF 80 rfl ?_; refine w_callG Try.func80 ?_ (hs := begun_any _ (by omega) _ _ _)))); exact WQ.q1 rfl) : G := h
theorem st_R35_2 {G G' : Prop} (next : G') (h : Bx G' → G := by intro zzn; (first | ((refine st ?_; (repeat intro zzc)); (try ((first | (refine WL.slArrH rfl rfl (by (first | with_reducible exact natz _ | with_reducible exact natz0 | with_reducible exact natz1 | with_reducible exact natz2 | with_reducible exact natz3 | with_reducible exact natz4 | with_reducible exact natz8 | (apply natz_add; (· first | with_reducible exact natz _ | with_reducible exact natz0 | with_reducible exact natz1 | with_reducible exact natz2 | with_reducible exact natz3 | with_reducible exact natz4 | with_reducible exact natz8); (· first | with_reducible exact natz _ | with_reducible exact natz0 | with_reducible exact natz1 | with_reducible exact natz2 | with_reducible exact natz3 | with_reducible exact natz4 | with_reducible exact natz8)) | (apply natz_sub; (· first | with_reducible exact natz _ | with_reducible exact natz0 | with_reducible exact natz1 | with_reducible exact natz2 | with_reducible exact natz3 | with_reducible exact natz4 | with_reducible exact natz8); (· first | with_reducible exact natz _ | with_reducible exact natz0 | with_reducible exact natz1 | with_reducible exact natz2 | with_reducible exact natz3 | with_reducible exact natz4 | with_reducible exact natz8); (· omega)) | exact (Int.toNat_of_nonneg (by omega)).symm)) rfl rfl rfl (by omega) ?_) | (refine iConv rfl ?_; refine WL.bytesBlk rfl (by (repeat (first | exact List.Mem.head _ | apply List.Mem.tail))) (by assumption) (by assumption) rfl rfl rfl rfl rfl ?_) | (refine WL.slArr rfl rfl rfl rfl ?_) | (refine iF 80 rfl ?_; refine w_callG Try.func80 ?_ (hs := begun_any _ (by omega) _ _ _)) | ((refine iDraw ?_; (first | refine WC.drawAll rfl (by decide +kernel) ?_ | refine WC.draw 1 rfl (by decide +kernel) ?_ | refine WC.draw 2 rfl (by decide +kernel) ?_ | refine WC.draw 3 rfl (by decide +kernel) ?_ | refine WC.draw 4 rfl (by decide +kernel) ?_ | refine WC.draw 5 rfl (by decide +kernel) ?_ | refine WC.draw 6 rfl (by decide +kernel) ?_ | refine WC.draw 7 rfl (by decide +kernel) ?_ | refine WC.draw 8 rfl (by decide +kernel) ?_ | refine WC.draw 9 rfl (by decide +kernel) ?_ | refine WC.draw 10 rfl (by decide +kernel) ?_ | refine WC.draw 11 rfl (by decide +kernel) ?_ | refine WC.draw 12 rfl (by decide +kernel) ?_ | refine WC.draw 13 rfl (by decide +kernel) ?_ | refine WC.draw 14 rfl (by decide +kernel) ?_ | refine WC.draw 15 rfl (by decide +kernel) ?_ | refine WC.draw 16 rfl (by decide +kernel) ?_ | refine WC.draw 17 rfl (by decide +kernel) ?_ | refine WC.draw 18 rfl (by decide +kernel) ?_ | refine WC.draw 19 rfl (by decide +kernel) ?_ | refine WC.draw 20 rfl (by decide +kernel) ?_ | refine WC.draw 21 rfl (by decide +kernel) ?_ | refine WC.draw 22 rfl (by decide +kernel) ?_ | refine WC.draw 23 rfl (by decide +kernel) ?_ | refine WC.draw 24 rfl (by decide +kernel) ?_)); (repeat (refine WD.cons rfl (fun c h => by cases h) sq_R35_2 ?_)); refine WD.nil ?_)); (try (refine st ?_; (repeat intro zzc)))))) | ((first | (refine WL.slArrH rfl rfl (by (first | with_reducible exact natz _ | with_reducible exact natz0 | with_reducible exact natz1 | with_reducible exact natz2 | with_reducible exact natz3 | with_reducible exact natz4 | with_reducible exact natz8 | (apply natz_add; (· first | with_reducible exact natz _ | with_reducible exact natz0 | with_reducible exact natz1 | with_reducible exact natz2 | with_reducible exact natz3 | with_reducible exact natz4 | with_reducible exact natz8); (· first | with_reducible exact natz _ | with_reducible exact natz0 | with_reducible exact natz1 | with_reducible exact natz2 | with_reducible exact natz3 | with_reducible exact natz4 | with_reducible exact natz8)) | (apply natz_sub; (· first | with_reducible exact natz _ | with_reducible exact natz0 | with_reducible exact natz1 | with_reducible exact natz2 | with_reducible exact natz3 | with_reducible exact natz4 | with_reducible exact natz8); (· first | with_reducible exact natz _ | with_reducible exact natz0 | with_reducible exact natz1 | with_reducible exact natz2 | with_reducible exact natz3 | with_reducible exact natz4 | with_reducible exact natz8); (· omega)) | exact (Int.toNat_of_nonneg (by omega)).symm)) rfl rfl rfl (by omega) ?_) | (refine iConv rfl ?_; refine WL.bytesBlk rfl (by (repeat (first | exact List.Mem.head _ | apply List.Mem.tail))) (by assumption) (by assumption) rfl rfl rfl rfl rfl ?_) | (refine WL.slArr rfl rfl rfl rfl ?_) | (refine iF 80 rfl ?_; refine w_callG Try.func80 ?_ (hs := begun_any _ (by omega) _ _ _)) | ((refine iDraw ?_; (first | refine WC.drawAll rfl (by decide +kernel) ?_ | refine WC.draw 1 rfl (by decide +kernel) ?_ | refine WC.draw 2 rfl (by decide +kernel) ?_ | refine WC.draw 3 rfl (by decide +kernel) ?_ | refine WC.draw 4 rfl (by decide +kernel) ?_ | refine WC.draw 5 rfl (by decide +kernel) ?_ | refine WC.draw 6 rfl (by decide +kernel) ?_ | refine WC.draw 7 rfl (by decide +kernel) ?_ | refine WC.draw 8 rfl (by decide +kernel) ?_ | refine WC.draw 9 rfl (by decide +kernel) ?_ | refine WC.draw 10 rfl (by decide +kernel) ?_ | refine WC.draw 11 rfl (by decide +kernel) ?_ | refine WC.draw 12 rfl (by decide +kernel) ?_ | refine WC.draw 13 rfl (by decide +kernel) ?_ | refine WC.draw 14 rfl (by decide +kernel) ?_ | refine WC.draw 15 rfl (by decide +kernel) ?_ | refine WC.draw 16 rfl (by decide +kernel) ?_ | refine WC.draw 17 rfl (by decide +kernel) ?_ | refine WC.draw 18 rfl (by decide +kernel) ?_ | refine WC.draw 19 rfl (by decide +kernel) ?_ | refine WC.draw 20 rfl (by decide +kernel) ?_ | refine WC.draw 21 rfl (by decide +kernel) ?_ | refine WC.draw 22 rfl (by decide +kernel) ?_ | refine WC.draw 23 rfl (by decide +kernel) ?_ | refine WC.draw 24 rfl (by decide +kernel) ?_)); (repeat (refine WD.cons rfl (fun c h => by cases h) sq_R35_2 ?_)); refine WD.nil ?_)); (try (refine st ?_; (repeat intro zzc))))); (repeat ((first | (refine WL.slArrH rfl rfl (by (first | with_reducible exact natz _ | with_reducible exact natz0 | with_reducible exact natz1 | with_reducible exact natz2 | with_reducible exact natz3 | with_reducible exact natz4 | with_reducible exact natz8 | (apply natz_add; (· first | with_reducible exact natz _ | with_reducible exact natz0 | with_reducible exact natz1 | with_reducible exact natz2 | with_reducible exact natz3 | with_reducible exact natz4 | with_reducible exact natz8); (· first | with_reducible exact natz _ | with_reducible exact natz0 | with_reducible exact natz1 | with_reducible exact natz2 | with_reducible exact natz3 | with_reducible exact natz4 | with_reducible exact natz8)) | (apply natz_sub; (· first | with_reducible exact natz _ | with_reducible exact natz0 | with_reducible exact natz1 | with_reducible exact natz2 | with_reducible exact natz3 | with_reducible exact natz4 | with_reducible exact natz8); (· first | with_reducible exact natz _ | with_reducible exact natz0 | with_reducible exact natz1 | with_reducible exact natz2 | with_reducible exact natz3 | with_reducible exact natz4 | with_reducible exact natz8); (· omega)) | exact (Int.toNat_of_nonneg (by omega)).symm)) rfl rfl rfl (by omega) ?_) | (refine iConv rfl ?_; refine WL.bytesBlk rfl (by (repeat (first | exact List.Mem.head _ | apply List.Mem.tail))) (by assumption) (by assumption) rfl rfl rfl rfl rfl ?_) | (refine WL.slArr rfl rfl rfl rfl ?_) | (refine iF 80 rfl ?_; refine w_callG Try.func80 ?_ (hs := begun_any _ (by omega) _ _ _)) | ((refine iDraw ?_; (first | refine WC.drawAll rfl (by decide +kernel) ?_ | refine WC.draw 1 rfl (by decide +kernel) ?_ | refine WC.draw 2 rfl (by decide +kernel) ?_ | refine WC.draw 3 rfl (by decide +kernel) ?_ | refine WC.draw 4 rfl (by decide +kernel) ?_ | refine WC.draw 5 rfl (by decide +kernel) ?_ | refine WC.draw 6 rfl (by decide +kernel) ?_ | refine WC.draw 7 rfl (by decide +kernel) ?_ | refine WC.draw 8 rfl (by decide +kernel) ?_ | refine WC.draw 9 rfl (by decide +kernel) ?_ | refine WC.draw 10 rfl (by decide +kernel) ?_ | refine WC.draw 11 rfl (by decide +kernel) ?_ | refine WC.draw 12 rfl (by decide +kernel) ?_ | refine WC.draw 13 rfl (by decide +kernel) ?_ | refine WC.draw 14 rfl (by decide +kernel) ?_ | refine WC.draw 15 rfl (by decide +kernel) ?_ | refine WC.draw 16 rfl (by decide +kernel) ?_ | refine WC.draw 17 rfl (by decide +kernel) ?_ | refine WC.draw 18 rfl (by decide +kernel) ?_ | refine WC.draw 19 rfl (by decide +kernel) ?_ | refine WC.draw 20 rfl (by decide +kernel) ?_ | refine WC.draw 21 rfl (by decide +kernel) ?_ | refine WC.draw 22 rfl (by decide +kernel) ?_ | refine WC.draw 23 rfl (by decide +kernel) ?_ | refine WC.draw 24 rfl (by decide +kernel) ?_)); (repeat (refine WD.cons rfl (fun c h => by cases h) sq_R35_2 ?_)); refine WD.nil ?_)); (try (refine st ?_; (repeat intro zzc))))); (repeat revert zzc); exact zzn.out) : G := h ⟨next⟩
theorem tell_any {f : Nat} {x y z : Int} {n a : Nat} (s : List UInt8) (keep : Nat) (hk : keep ≤ s.length) (hk3 : keep ≤ 3) (hl : s.length ≤ 1048576) (ha : a ≤ 1099511627776) (w0 : World) (m : Mem) (H : SHeap) :
    Does Try.prog 82 #[.pointer (some ⟨f, 0, none⟩), str s, .int .i64 (keep : Int)] w0 m (.blk f (.cells [.int .u8 x, .int .u8 y, .int .u8 z, .int .i64 (n : Int), .int .i64 (a : Int)].toArray 100 (0, 0)) :: H) (fun v m' H' => m.le m' ∧ ∃ c cap x' y' z', v = .slice c (pieces (s.take (s.length - keep))).length cap ∧ [x', y', z'].take keep = (s.drop (s.length - keep)).map (fun b => (b.toNat : Int)) ∧
      H' = .row c cap 24 4 ((pieces (s.take (s.length - keep))).map fun p => (p.sh a).cs) :: .blk f (.cells [.int .u8 x', .int .u8 y', .int .u8 z', .int .i64 (keep : Int), .int .i64 ((a + (s.length - keep) : Nat) : Int)].toArray 100 (0, 0)) :: H) := by
  refine Does.of_body (args := [.pointer (some ⟨f, 0, none⟩), str s, .int .i64 (keep : Int)]) Try.func82 rfl Try.ntmps82 rfl ?_
  obtain ⟨l, hl0⟩ : ∃ l, s.take (s.length - keep) = l := ⟨_, rfl⟩
  have hll : l.length = s.length - keep := by rw [← hl0]; simp
  have hpl := pieces_length l
  (refine st_R35_2 ?_; intros; rename_i b3 b7)
  rw [hl0]
  refine w_callF Try.func38 ?_ (hs := pieces_any _ _ _ _)
  rintro _ m0 H0 ⟨b, rfl, rfl, rfl⟩
  (try (refine st_R35_2 ?_; intros))
  refine WC.newRow (T := 24) (sz := 4) ?_
  refine WC.persist (by (repeat (first | exact Out.here | apply Out.there))) ?_
  intro mp hle hb
  refine WC.rangeFunc (encs := fun p : Pc => [p.v]) (xs := pieces l) (Cap := TextAt b l) (lb := [.pointer (some ⟨b, 0, none⟩)]) (ps := [16]) (J := fun pre m' Hl => ∃ c cap, Hl = [.row c cap 24 4 (pre.map fun p => (p.sh a).cs), .blk b7 (.cells [.slice c pre.length cap].toArray 29 (0, 0)), .blk b3 (.cells [.pointer (some ⟨f, 0, none⟩)].toArray 76 (0, 0)), .blk f (.cells [.int .u8 x, .int .u8 y, .int .u8 z, .int .i64 (n : Int), .int .i64 (a : Int)].toArray 100 (0, 0))]) (Jx := fun c pre m' Hl => False) rfl Try.func74 rfl rfl (pieces_seq l (by omega) b) hb (fun _ => rfl) rfl (.cons (.cons (.cons (.cons .nil)))) ?_ ?_ ?_ ?_
  · exact ⟨none, 0, rfl⟩
  · rintro lp pre p post hxs m1 Hl ⟨c, cap, rfl⟩ hm1 Hfr hfr
    have hpre : pre.length ≤ (pieces l).length := by rw [hxs]; simp
    have hmw := mem_w (l := l) (p := p) (by rw [hxs]; simp)
    have hml : (pre.map fun p => (p.sh a).cs).length = pre.length := by simp
    (try (refine st_R35_2 ?_; intros))
    refine WQ.assigned (.cons (.cons (.cons (.cons (.cons .nil))))) (Mem.le.refl _) ?_
    intro Hfr2
    (refine st_R35_2 ?_; intros; rename_i c2 cap2)
    refine WQ.roundOn (Hl := [.row c2 cap2 24 4 _, .blk b7 _, .blk b3 _, .blk f _]) (fun w h => Pick.sat (by iterate 60 (try (first | exact Pick.all | (apply Pick.take; (· (repeat (first | exact Out.here | apply Out.there)))) | apply Pick.drop))) h) (Mem.le.refl _) ⟨c2, cap2, ?_⟩
    simp [Pc.sh, Pc.cs]
  · rintro D mx Hl ⟨c, cap, rfl⟩ hmx
    simp only [List.cons_append, List.nil_append]
    have hmx2 := hle.trans hmx
    (try (refine st_R35_2 ?_; intros))
    rw [show (a : Int) + ((s.length : Int) - (keep : Int)) = ((a + (s.length - keep) : Nat) : Int) by omega]
    refine WC.drawE 12 ([.blk b3 (.cells [.pointer (some ⟨f, 0, none⟩)].toArray 76 (0, 0))]) (.blk f (.cells [.int .u8 x, .int .u8 y, .int .u8 z, .int .i64 (n : Int), .int .i64 ((a + (s.length - keep) : Nat) : Int)].toArray 100 (0, 0)) :: .row c cap 24 4 ((pieces l).map fun p => (p.sh a).cs) :: .blk b7 (.cells [.slice c (pieces l).length cap].toArray 29 (0, 0)) :: .blk D (.deferred (some [])) :: H) rfl (by decide +kernel) (fun w h => Pick.sat (by iterate 60 (try (first | exact Pick.all | (apply Pick.take; (· (repeat (first | exact Out.here | apply Out.there)))) | apply Pick.drop))) h) ?_
    ((try (refine WE.calm 0 (by decide +kernel) rfl rfl (by decide +kernel) rfl (fun c h => by cases h) (by intro zm zF zle; exact sq_R35_2) ?_)); (try (refine WE.calm 1 (by decide +kernel) rfl rfl (by decide +kernel) rfl (fun c h => by cases h) (by intro zm zF zle; exact sq_R35_2) ?_)); (try (refine WE.calm 2 (by decide +kernel) rfl rfl (by decide +kernel) rfl (fun c h => by cases h) (by intro zm zF zle; exact sq_R35_2) ?_)); (try (refine WE.calm 3 (by decide +kernel) rfl rfl (by decide +kernel) rfl (fun c h => by cases h) (by intro zm zF zle; exact sq_R35_2) ?_)); (try (refine WE.calm 4 (by decide +kernel) rfl rfl (by decide +kernel) rfl (fun c h => by cases h) (by intro zm zF zle; exact sq_R35_2) ?_)); (try (refine WE.calm 5 (by decide +kernel) rfl rfl (by decide +kernel) rfl (fun c h => by cases h) (by intro zm zF zle; exact sq_R35_2) ?_)); (try (refine WE.calm 6 (by decide +kernel) rfl rfl (by decide +kernel) rfl (fun c h => by cases h) (by intro zm zF zle; exact sq_R35_2) ?_)); (try (refine WE.calm 7 (by decide +kernel) rfl rfl (by decide +kernel) rfl (fun c h => by cases h) (by intro zm zF zle; exact sq_R35_2) ?_)); (try (refine WE.calm 8 (by decide +kernel) rfl rfl (by decide +kernel) rfl (fun c h => by cases h) (by intro zm zF zle; exact sq_R35_2) ?_)); (try (refine WE.calm 9 (by decide +kernel) rfl rfl (by decide +kernel) rfl (fun c h => by cases h) (by intro zm zF zle; exact sq_R35_2) ?_)); (try (refine WE.calm 10 (by decide +kernel) rfl rfl (by decide +kernel) rfl (fun c h => by cases h) (by intro zm zF zle; exact sq_R35_2) ?_)); (try (refine WE.calm 11 (by decide +kernel) rfl rfl (by decide +kernel) rfl (fun c h => by cases h) (by intro zm zF zle; exact sq_R35_2) ?_)); (try (refine WE.calm 12 (by decide +kernel) rfl rfl (by decide +kernel) rfl (fun c h => by cases h) (by intro zm zF zle; exact sq_R35_2) ?_)); (try (refine WE.calm 13 (by decide +kernel) rfl rfl (by decide +kernel) rfl (fun c h => by cases h) (by intro zm zF zle; exact sq_R35_2) ?_)); (try (refine WE.calm 14 (by decide +kernel) rfl rfl (by decide +kernel) rfl (fun c h => by cases h) (by intro zm zF zle; exact sq_R35_2) ?_)); (try (refine WE.calm 15 (by decide +kernel) rfl rfl (by decide +kernel) rfl (fun c h => by cases h) (by intro zm zF zle; exact sq_R35_2) ?_)); (try (refine WE.calm 16 (by decide +kernel) rfl rfl (by decide +kernel) rfl (fun c h => by cases h) (by intro zm zF zle; exact sq_R35_2) ?_)); (try (refine WE.calm 17 (by decide +kernel) rfl rfl (by decide +kernel) rfl (fun c h => by cases h) (by intro zm zF zle; exact sq_R35_2) ?_)); (try (refine WE.calm 18 (by decide +kernel) rfl rfl (by decide +kernel) rfl (fun c h => by cases h) (by intro zm zF zle; exact sq_R35_2) ?_)); (try (refine WE.calm 19 (by decide +kernel) rfl rfl (by decide +kernel) rfl (fun c h => by cases h) (by intro zm zF zle; exact sq_R35_2) ?_)); (try (refine WE.calm 20 (by decide +kernel) rfl rfl (by decide +kernel) rfl (fun c h => by cases h) (by intro zm zF zle; exact sq_R35_2) ?_)); (try (refine WE.calm 21 (by decide +kernel) rfl rfl (by decide +kernel) rfl (fun c h => by cases h) (by intro zm zF zle; exact sq_R35_2) ?_)); (try (refine WE.calm 22 (by decide +kernel) rfl rfl (by decide +kernel) rfl (fun c h => by cases h) (by intro zm zF zle; exact sq_R35_2) ?_)); (try (refine WE.calm 23 (by decide +kernel) rfl rfl (by decide +kernel) rfl (fun c h => by cases h) (by intro zm zF zle; exact sq_R35_2) ?_)); (try (refine WE.calm 24 (by decide +kernel) rfl rfl (by decide +kernel) rfl (fun c h => by cases h) (by intro zm zF zle; exact sq_R35_2) ?_)); (try (refine WE.calm 25 (by decide +kernel) rfl rfl (by decide +kernel) rfl (fun c h => by cases h) (by intro zm zF zle; exact sq_R35_2) ?_)); (try (refine WE.calm 26 (by decide +kernel) rfl rfl (by decide +kernel) rfl (fun c h => by cases h) (by intro zm zF zle; exact sq_R35_2) ?_)); (try (refine WE.calm 27 (by decide +kernel) rfl rfl (by decide +kernel) rfl (fun c h => by cases h) (by intro zm zF zle; exact sq_R35_2) ?_)); (try (refine WE.calm 28 (by decide +kernel) rfl rfl (by decide +kernel) rfl (fun c h => by cases h) (by intro zm zF zle; exact sq_R35_2) ?_)); (try (refine WE.calm 29 (by decide +kernel) rfl rfl (by decide +kernel) rfl (fun c h => by cases h) (by intro zm zF zle; exact sq_R35_2) ?_)); (try (refine WE.calm 30 (by decide +kernel) rfl rfl (by decide +kernel) rfl (fun c h => by cases h) (by intro zm zF zle; exact sq_R35_2) ?_)); (try (refine WE.calm 31 (by decide +kernel) rfl rfl (by decide +kernel) rfl (fun c h => by cases h) (by intro zm zF zle; exact sq_R35_2) ?_)); (try (refine WE.calm 32 (by decide +kernel) rfl rfl (by decide +kernel) rfl (fun c h => by cases h) (by intro zm zF zle; exact sq_R35_2) ?_)); (try (refine WE.calm 33 (by decide +kernel) rfl rfl (by decide +kernel) rfl (fun c h => by cases h) (by intro zm zF zle; exact sq_R35_2) ?_)); (try (refine WE.calm 34 (by decide +kernel) rfl rfl (by decide +kernel) rfl (fun c h => by cases h) (by intro zm zF zle; exact sq_R35_2) ?_)); (try (refine WE.calm 35 (by decide +kernel) rfl rfl (by decide +kernel) rfl (fun c h => by cases h) (by intro zm zF zle; exact sq_R35_2) ?_)); (try (refine WE.calm 36 (by decide +kernel) rfl rfl (by decide +kernel) rfl (fun c h => by cases h) (by intro zm zF zle; exact sq_R35_2) ?_)); (try (refine WE.calm 37 (by decide +kernel) rfl rfl (by decide +kernel) rfl (fun c h => by cases h) (by intro zm zF zle; exact sq_R35_2) ?_)); (try (refine WE.calm 38 (by decide +kernel) rfl rfl (by decide +kernel) rfl (fun c h => by cases h) (by intro zm zF zle; exact sq_R35_2) ?_)); (try (refine WE.calm 39 (by decide +kernel) rfl rfl (by decide +kernel) rfl (fun c h => by cases h) (by intro zm zF zle; exact sq_R35_2) ?_)); (try (refine WE.calm 40 (by decide +kernel) rfl rfl (by decide +kernel) rfl (fun c h => by cases h) (by intro zm zF zle; exact sq_R35_2) ?_)); (try (refine WE.calm 41 (by decide +kernel) rfl rfl (by decide +kernel) rfl (fun c h => by cases h) (by intro zm zF zle; exact sq_R35_2) ?_)))
    have hsl : (s.drop (s.length - keep)).length = keep := by simp; omega
    obtain ⟨x', y', z', hlaid, htake⟩ := feed_laid x y z n (a + (s.length - keep)) (s.drop (s.length - keep)) (by omega)
    rw [hsl] at htake
    refine WE.act1 11 (by decide +kernel) rfl rfl (fun c h => by cases h) ?_
    refine WL.copyS (L := [.int .u8 x, .int .u8 y, .int .u8 z, .int .i64 (n : Int), .int .i64 ((a + (s.length - keep) : Nat) : Int)]) (L' := [.int .u8 x', .int .u8 y', .int .u8 z', .int .i64 (n : Int), .int .i64 ((a + (s.length - keep) : Nat) : Int)]) rfl rfl (by omega) rfl rfl rfl (by (repeat (first | exact Repl.here | apply Repl.there))) (by simp; omega) hlaid rfl ?_
    rw [hsl]
    (try (refine st_R35_2 ?_; intros))
    refine WQ.acted (B := []) (U := .blk f (.cells [.int .u8 x', .int .u8 y', .int .u8 z', .int .i64 (n : Int), .int .i64 ((a + (s.length - keep) : Nat) : Int)].toArray 100 (0, 0)) :: .row c cap 24 4 ((pieces l).map fun p => (p.sh a).cs) :: .blk b7 (.cells [.slice c (pieces l).length cap].toArray 29 (0, 0)) :: .blk D (.deferred (some [])) :: H) rfl (Mem.le.refl _) (fun w h => Pick.sat (by iterate 60 (try (first | exact Pick.all | (apply Pick.take; (· (repeat (first | exact Out.here | apply Out.there)))) | apply Pick.drop))) h) ?_
    refine WE.done (by decide +kernel) ?_
    (try (refine st_R35_2 ?_; intros))
    refine WQ.mark (List.perm_middle (l₁ := [_, _, _, _])) ?_
    exact q_fin0 (H0 := .row c cap 24 4 ((pieces l).map fun p => (p.sh a).cs) :: .blk f (.cells [.int .u8 x', .int .u8 y', .int .u8 z', .int .i64 (keep : Int), .int .i64 ((a + (s.length - keep) : Nat) : Int)].toArray 100 (0, 0)) :: H) ⟨hmx2, c, cap, x', y', z', rfl, htake, rfl⟩ (hd := (fun w h => Pick.sat (by iterate 60 (try (first | exact Pick.all | (apply Pick.take; (· (repeat (first | exact Out.here | apply Out.there)))) | apply Pick.drop))) h))
  · rintro D c pre m' Hl _ h _
    exact h.elim
theorem sq_R35_3 {G : Prop} (h : G := by (repeat (first | (refine sp ?_; (repeat intro zzc)) | (refine WL.slArrH rfl rfl (by (first | with_reducible exact natz _ | with_reducible exact natz0 | with_reducible exact natz1 | with_reducible exact natz2 | with_reducible exact natz3 | with_reducible exact natz4 | with_reducible exact natz8 | (apply natz_add; (· first | with_reducible exact natz _ | with_reducible exact natz0 | with_reducible exact natz1 | with_reducible exact natz2 | with_reducible exact natz3 | with_reducible exact natz4 | with_reducible exact natz8); (· first | with_reducible exact natz _ | with_reducible exact natz0 | with_reducible exact natz1 | with_reducible exact natz2 | with_reducible exact natz3 | with_reducible exact natz4 | with_reducible exact natz8)) | (apply natz_sub; (· first | with_reducible exact natz _ | with_reducible exact natz0 | with_reducible exact natz1 | with_reducible exact natz2 | with_reducible exact natz3 | with_reducible exact natz4 | with_reducible exact natz8); (· first | with_reducible exact natz _ | with_reducible exact natz0 | with_reducible exact natz1 | with_reducible exact natz2 | with_reducible exact natz3 | with_reducible exact natz4 | with_reducible exact natz8); (· omega)) | exact (Int.toNat_of_nonneg (by omega)).symm)) rfl rfl rfl (by omega) ?_) | (refine iConv rfl ?_; refine WL.bytesBlk rfl (by (repeat (first | exact List.Mem.head _ | apply List.Mem.tail))) (by assumption) (by assumption) rfl rfl rfl rfl rfl ?_) | (refine WL.slArr rfl rfl rfl rfl ?_) | (refine iF 80 rfl ?_; refine w_callG Try.func80 ?_ (hs := begun_any _ (by omega) _ _ _)) | (refine iF 65 rfl ?_; refine w_callG Try.func65 ?_ (hs := held_any (by assumption) (by assumption) _ _ _)))); exact WQ.q1 rfl) : G := h
theorem st_R35_3 {G G' : Prop} (next : G') (h : Bx G' → G := by intro zzn; (first | ((refine st ?_; (repeat intro zzc)); (try ((first | (refine WL.slArrH rfl rfl (by (first | with_reducible exact natz _ | with_reducible exact natz0 | with_reducible exact natz1 | with_reducible exact natz2 | with_reducible exact natz3 | with_reducible exact natz4 | with_reducible exact natz8 | (apply natz_add; (· first | with_reducible exact natz _ | with_reducible exact natz0 | with_reducible exact natz1 | with_reducible exact natz2 | with_reducible exact natz3 | with_reducible exact natz4 | with_reducible exact natz8); (· first | with_reducible exact natz _ | with_reducible exact natz0 | with_reducible exact natz1 | with_reducible exact natz2 | with_reducible exact natz3 | with_reducible exact natz4 | with_reducible exact natz8)) | (apply natz_sub; (· first | with_reducible exact natz _ | with_reducible exact natz0 | with_reducible exact natz1 | with_reducible exact natz2 | with_reducible exact natz3 | with_reducible exact natz4 | with_reducible exact natz8); (· first | with_reducible exact natz _ | with_reducible exact natz0 | with_reducible exact natz1 | with_reducible exact natz2 | with_reducible exact natz3 | with_reducible exact natz4 | with_reducible exact natz8); (· omega)) | exact (Int.toNat_of_nonneg (by omega)).symm)) rfl rfl rfl (by omega) ?_) | (refine iConv rfl ?_; refine WL.bytesBlk rfl (by (repeat (first | exact List.Mem.head _ | apply List.Mem.tail))) (by assumption) (by assumption) rfl rfl rfl rfl rfl ?_) | (refine WL.slArr rfl rfl rfl rfl ?_) | (refine iF 80 rfl ?_; refine w_callG Try.func80 ?_ (hs := begun_any _ (by omega) _ _ _)) | (refine iF 65 rfl ?_; refine w_callG Try.func65 ?_ (hs := held_any (by assumption) (by assumption) _ _ _)) | ((refine iDraw ?_; (first | refine WC.drawAll rfl (by decide +kernel) ?_ | refine WC.draw 1 rfl (by decide +kernel) ?_ | refine WC.draw 2 rfl (by decide +kernel) ?_ | refine WC.draw 3 rfl (by decide +kernel) ?_ | refine WC.draw 4 rfl (by decide +kernel) ?_ | refine WC.draw 5 rfl (by decide +kernel) ?_ | refine WC.draw 6 rfl (by decide +kernel) ?_ | refine WC.draw 7 rfl (by decide +kernel) ?_ | refine WC.draw 8 rfl (by decide +kernel) ?_ | refine WC.draw 9 rfl (by decide +kernel) ?_ | refine WC.draw 10 rfl (by decide +kernel) ?_ | refine WC.draw 11 rfl (by decide +kernel) ?_ | refine WC.draw 12 rfl (by decide +kernel) ?_ | refine WC.draw 13 rfl (by decide +kernel) ?_ | refine WC.draw 14 rfl (by decide +kernel) ?_ | refine WC.draw 15 rfl (by decide +kernel) ?_ | refine WC.draw 16 rfl (by decide +kernel) ?_ | refine WC.draw 17 rfl (by decide +kernel) ?_ | refine WC.draw 18 rfl (by decide +kernel) ?_ | refine WC.draw 19 rfl (by decide +kernel) ?_ | refine WC.draw 20 rfl (by decide +kernel) ?_ | refine WC.draw 21 rfl (by decide +kernel) ?_ | refine WC.draw 22 rfl (by decide +kernel) ?_ | refine WC.draw 23 rfl (by decide +kernel) ?_ | refine WC.draw 24 rfl (by decide +kernel) ?_)); (repeat (refine WD.cons rfl (fun c h => by cases h) sq_R35_3 ?_)); refine WD.nil ?_)); (try (refine st ?_; (repeat intro zzc)))))) | ((first | (refine WL.slArrH rfl rfl (by (first | with_reducible exact natz _ | with_reducible exact natz0 | with_reducible exact natz1 | with_reducible exact natz2 | with_reducible exact natz3 | with_reducible exact natz4 | with_reducible exact natz8 | (apply natz_add; (· first | with_reducible exact natz _ | with_reducible exact natz0 | with_reducible exact natz1 | with_reducible exact natz2 | with_reducible exact natz3 | with_reducible exact natz4 | with_reducible exact natz8); (· first | with_reducible exact natz _ | with_reducible exact natz0 | with_reducible exact natz1 | with_reducible exact natz2 | with_reducible exact natz3 | with_reducible exact natz4 | with_reducible exact natz8)) | (apply natz_sub; (· first | with_reducible exact natz _ | with_reducible exact natz0 | with_reducible exact natz1 | with_reducible exact natz2 | with_reducible exact natz3 | with_reducible exact natz4 | with_reducible exact natz8); (· first | with_reducible exact natz _ | with_reducible exact natz0 | with_reducible exact natz1 | with_reducible exact natz2 | with_reducible exact natz3 | with_reducible exact natz4 | with_reducible exact natz8); (· omega)) | exact (Int.toNat_of_nonneg (by omega)).symm)) rfl rfl rfl (by omega) ?_) | (refine iConv rfl ?_; refine WL.bytesBlk rfl (by (repeat (first | exact List.Mem.head _ | apply List.Mem.tail))) (by assumption) (by assumption) rfl rfl rfl rfl rfl ?_) | (refine WL.slArr rfl rfl rfl rfl ?_) | (refine iF 80 rfl ?_; refine w_callG Try.func80 ?_ (hs := begun_any _ (by omega) _ _ _)) | (refine iF 65 rfl ?_; refine w_callG Try.func65 ?_ (hs := held_any (by assumption) (by assumption) _ _ _)) | ((refine iDraw ?_; (first | refine WC.drawAll rfl (by decide +kernel) ?_ | refine WC.draw 1 rfl (by decide +kernel) ?_ | refine WC.draw 2 rfl (by decide +kernel) ?_ | refine WC.draw 3 rfl (by decide +kernel) ?_ | refine WC.draw 4 rfl (by decide +kernel) ?_ | refine WC.draw 5 rfl (by decide +kernel) ?_ | refine WC.draw 6 rfl (by decide +kernel) ?_ | refine WC.draw 7 rfl (by decide +kernel) ?_ | refine WC.draw 8 rfl (by decide +kernel) ?_ | refine WC.draw 9 rfl (by decide +kernel) ?_ | refine WC.draw 10 rfl (by decide +kernel) ?_ | refine WC.draw 11 rfl (by decide +kernel) ?_ | refine WC.draw 12 rfl (by decide +kernel) ?_ | refine WC.draw 13 rfl (by decide +kernel) ?_ | refine WC.draw 14 rfl (by decide +kernel) ?_ | refine WC.draw 15 rfl (by decide +kernel) ?_ | refine WC.draw 16 rfl (by decide +kernel) ?_ | refine WC.draw 17 rfl (by decide +kernel) ?_ | refine WC.draw 18 rfl (by decide +kernel) ?_ | refine WC.draw 19 rfl (by decide +kernel) ?_ | refine WC.draw 20 rfl (by decide +kernel) ?_ | refine WC.draw 21 rfl (by decide +kernel) ?_ | refine WC.draw 22 rfl (by decide +kernel) ?_ | refine WC.draw 23 rfl (by decide +kernel) ?_ | refine WC.draw 24 rfl (by decide +kernel) ?_)); (repeat (refine WD.cons rfl (fun c h => by cases h) sq_R35_3 ?_)); refine WD.nil ?_)); (try (refine st ?_; (repeat intro zzc))))); (repeat ((first | (refine WL.slArrH rfl rfl (by (first | with_reducible exact natz _ | with_reducible exact natz0 | with_reducible exact natz1 | with_reducible exact natz2 | with_reducible exact natz3 | with_reducible exact natz4 | with_reducible exact natz8 | (apply natz_add; (· first | with_reducible exact natz _ | with_reducible exact natz0 | with_reducible exact natz1 | with_reducible exact natz2 | with_reducible exact natz3 | with_reducible exact natz4 | with_reducible exact natz8); (· first | with_reducible exact natz _ | with_reducible exact natz0 | with_reducible exact natz1 | with_reducible exact natz2 | with_reducible exact natz3 | with_reducible exact natz4 | with_reducible exact natz8)) | (apply natz_sub; (· first | with_reducible exact natz _ | with_reducible exact natz0 | with_reducible exact natz1 | with_reducible exact natz2 | with_reducible exact natz3 | with_reducible exact natz4 | with_reducible exact natz8); (· first | with_reducible exact natz _ | with_reducible exact natz0 | with_reducible exact natz1 | with_reducible exact natz2 | with_reducible exact natz3 | with_reducible exact natz4 | with_reducible exact natz8); (· omega)) | exact (Int.toNat_of_nonneg (by omega)).symm)) rfl rfl rfl (by omega) ?_) | (refine iConv rfl ?_; refine WL.bytesBlk rfl (by (repeat (first | exact List.Mem.head _ | apply List.Mem.tail))) (by assumption) (by assumption) rfl rfl rfl rfl rfl ?_) | (refine WL.slArr rfl rfl rfl rfl ?_) | (refine iF 80 rfl ?_; refine w_callG Try.func80 ?_ (hs := begun_any _ (by omega) _ _ _)) | (refine iF 65 rfl ?_; refine w_callG Try.func65 ?_ (hs := held_any (by assumption) (by assumption) _ _ _)) | ((refine iDraw ?_; (first | refine WC.drawAll rfl (by decide +kernel) ?_ | refine WC.draw 1 rfl (by decide +kernel) ?_ | refine WC.draw 2 rfl (by decide +kernel) ?_ | refine WC.draw 3 rfl (by decide +kernel) ?_ | refine WC.draw 4 rfl (by decide +kernel) ?_ | refine WC.draw 5 rfl (by decide +kernel) ?_ | refine WC.draw 6 rfl (by decide +kernel) ?_ | refine WC.draw 7 rfl (by decide +kernel) ?_ | refine WC.draw 8 rfl (by decide +kernel) ?_ | refine WC.draw 9 rfl (by decide +kernel) ?_ | refine WC.draw 10 rfl (by decide +kernel) ?_ | refine WC.draw 11 rfl (by decide +kernel) ?_ | refine WC.draw 12 rfl (by decide +kernel) ?_ | refine WC.draw 13 rfl (by decide +kernel) ?_ | refine WC.draw 14 rfl (by decide +kernel) ?_ | refine WC.draw 15 rfl (by decide +kernel) ?_ | refine WC.draw 16 rfl (by decide +kernel) ?_ | refine WC.draw 17 rfl (by decide +kernel) ?_ | refine WC.draw 18 rfl (by decide +kernel) ?_ | refine WC.draw 19 rfl (by decide +kernel) ?_ | refine WC.draw 20 rfl (by decide +kernel) ?_ | refine WC.draw 21 rfl (by decide +kernel) ?_ | refine WC.draw 22 rfl (by decide +kernel) ?_ | refine WC.draw 23 rfl (by decide +kernel) ?_ | refine WC.draw 24 rfl (by decide +kernel) ?_)); (repeat (refine WD.cons rfl (fun c h => by cases h) sq_R35_3 ?_)); refine WD.nil ?_)); (try (refine st ?_; (repeat intro zzc))))); (repeat revert zzc); exact zzn.out) : G := h ⟨next⟩
theorem end_any {f : Nat} {x y z : Int} {n a : Nat} {h : List UInt8} (hn : n ≤ 3) (hh : [x, y, z].take n = h.map fun b => (b.toNat : Int)) (ha : a ≤ 1099511627776) (w0 : World) (m : Mem) (H : SHeap) :
    Does Try.prog 60 #[.pointer (some ⟨f, 0, none⟩)] w0 m (.blk f (.cells [.int .u8 x, .int .u8 y, .int .u8 z, .int .i64 (n : Int), .int .i64 (a : Int)].toArray 100 (0, 0)) :: H) (fun v m' H' => m.le m' ∧ ∃ c cap, v = .slice c (pieces h).length cap ∧
      H' = .row c cap 24 4 ((pieces h).map fun p => (p.sh a).cs) :: .blk f (.cells [.int .u8 0, .int .u8 0, .int .u8 0, .int .i64 0, .int .i64 0].toArray 100 (0, 0)) :: H) := by
  refine Does.of_body (args := [.pointer (some ⟨f, 0, none⟩)]) Try.func60 rfl Try.ntmps60 rfl ?_
  have h2 := feed_len hn hh
  have h3 : (some (⟨f, 0, none⟩ : Addr)).isNone = false := rfl
  (try (refine st_R35_3 ?_; intros))
  refine w_callF Try.func82 ?_ (hs := tell_any h 0 (by omega) (by omega) (by omega) ha _ _ _)
  rintro v m1 H1 ⟨hm, c, cap, x', y', z', rfl, ht, rfl⟩
  rw [Nat.sub_zero, List.take_length]
  (try (refine st_R35_3 ?_; intros))
  exact q_fin0 (H0 := .row c cap 24 4 ((pieces h).map fun p => (p.sh a).cs) :: .blk f (.cells [.int .u8 0, .int .u8 0, .int .u8 0, .int .i64 0, .int .i64 0].toArray 100 (0, 0)) :: H) ⟨hm, c, cap, rfl, rfl⟩ (hd := (fun w h => Pick.sat (by iterate 60 (try (first | exact Pick.all | (apply Pick.take; (· (repeat (first | exact Out.here | apply Out.there)))) | apply Pick.drop))) h))
theorem put_any {f : Nat} {x y z : Int} {n a : Nat} {h : List UInt8} (s : List UInt8) (hn : n ≤ 3) (hh : [x, y, z].take n = h.map fun b => (b.toNat : Int)) (hl : s.length ≤ 1000000) (ha : a ≤ 1099511627776) (w0 : World) (m : Mem) (H : SHeap) :
    Does Try.prog 62 #[.pointer (some ⟨f, 0, none⟩), str s] w0 m (.blk f (.cells [.int .u8 x, .int .u8 y, .int .u8 z, .int .i64 (n : Int), .int .i64 (a : Int)].toArray 100 (0, 0)) :: H) (fun v m' H' => m.le m' ∧ ∃ c cap x' y' z', v = .slice c (pieces ((h ++ s).take ((h ++ s).length - (begunOf (h ++ s)).1))).length cap ∧
      [x', y', z'].take (begunOf (h ++ s)).1 = ((h ++ s).drop ((h ++ s).length - (begunOf (h ++ s)).1)).map (fun b => (b.toNat : Int)) ∧
      H' = .row c cap 24 4 ((pieces ((h ++ s).take ((h ++ s).length - (begunOf (h ++ s)).1))).map fun p => (p.sh a).cs) ::
        .blk f (.cells [.int .u8 x', .int .u8 y', .int .u8 z', .int .i64 ((begunOf (h ++ s)).1 : Int), .int .i64 ((a + ((h ++ s).length - (begunOf (h ++ s)).1) : Nat) : Int)].toArray 100 (0, 0)) :: H) := by
  refine Does.of_body (args := [.pointer (some ⟨f, 0, none⟩), str s]) Try.func62 rfl Try.ntmps62 rfl ?_
  have h2 := feed_len hn hh
  have h3 : (some (⟨f, 0, none⟩ : Addr)).isNone = false := rfl
  have hal : (h ++ s).length = h.length + s.length := by simp
  obtain ⟨k1, k2, _⟩ := begunK_bound (h ++ s) 3 (Nat.le_refl _)
  have k1' : (begunOf (h ++ s)).1 ≤ 3 := k1
  have k2' : (begunOf (h ++ s)).1 ≤ (h ++ s).length := k2
  (try (refine st_R35_3 ?_; intros))
  refine w_callF Try.func82 ?_ (hs := tell_any (h ++ s) _ k2' k1' (by omega) ha _ _ _)
  rintro v m1 H1 ⟨hm, c, cap, x', y', z', rfl, ht, rfl⟩
  (try (refine st_R35_3 ?_; intros))
  exact q_fin0 (H0 := _ :: _ :: H) ⟨hm, c, cap, x', y', z', rfl, ht, rfl⟩ (hd := (fun w h => Pick.sat (by iterate 60 (try (first | exact Pick.all | (apply Pick.take; (· (repeat (first | exact Out.here | apply Out.there)))) | apply Pick.drop))) h))
theorem put_nil (s : List UInt8) (w0 : World) (m : Mem) (H : SHeap) : Does Try.prog 62 #[.pointer none, str s] w0 m H (Gives (.slice none 0 0) m H) := by
  refine Does.of_body (args := [.pointer none, str s]) Try.func62 rfl Try.ntmps62 rfl ?_
  have h3 : (none : Option Addr).isNone = true := rfl
  (try (refine st_R35_3 ?_; intros))
  (refine q_fin0 ?_)
  exact Gives.mk rfl
theorem end_nil (w0 : World) (m : Mem) (H : SHeap) : Does Try.prog 60 #[.pointer none] w0 m H (Gives (.slice none 0 0) m H) := by
  refine Does.of_body (args := [.pointer none]) Try.func60 rfl Try.ntmps60 rfl ?_
  have h3 : (none : Option Addr).isNone = true := rfl
  (try (refine st_R35_3 ?_; intros))
  (refine q_fin0 ?_)
  exact Gives.mk rfl
theorem newFeed_any (w0 : World) (m : Mem) (H : SHeap) : Does Try.prog 59 #[] w0 m H (fun v m' H' => ∃ f, v = .pointer (some ⟨f, 0, none⟩) ∧ m' = m ∧ H' = .blk f (.cells [.int .u8 0, .int .u8 0, .int .u8 0, .int .i64 0, .int .i64 0].toArray 100 (0, 0)) :: H) := by
  refine Does.of_body (args := []) Try.func59 rfl Try.ntmps59 rfl ?_
  (refine st_R35_3 ?_; intros; rename_i f)
  exact q_fin0 (H0 := .blk f (.cells [.int .u8 0, .int .u8 0, .int .u8 0, .int .i64 0, .int .i64 0].toArray 100 (0, 0)) :: H) ⟨f, rfl, rfl, rfl⟩ (hd := (fun w h => Pick.sat (by iterate 60 (try (first | exact Pick.all | (apply Pick.take; (· (repeat (first | exact Out.here | apply Out.there)))) | apply Pick.drop))) h))
end Go.Proofs.Ytdmdabjaboigcaa

/-
  The walks of the reference's lacks, of Wants, and of the law RunesJoins. No condition.
-/
namespace Go.Proofs.Ytdmdabjaboigcaa
open Go Go.Eng
set_option maxRecDepth 100000
set_option maxHeartbeats 4000000
set_option linter.all false
attribute [local irreducible] WL WC WQ QFun QLoop Does Q1 QRound QAssign Go.Addr.add
theorem formN_two {l : List UInt8} {n : Nat} (h : 2 ≤ n) : (formN l).2 = n ↔ (dl l).2 = n := by
  unfold formN
  split
  · rename_i h1; rw [h1]; exact ⟨fun h2 => absurd h2 (by simp; omega), fun h2 => absurd h2 (by simp; omega)⟩
  · exact Iff.rfl
theorem refN_cases (c : Nat) : refN c = 0 ∨ 2 ≤ refN c ∧ refN c ≤ 4 := by
  unfold refN; split
  · omega
  · split
    · omega
    · split <;> omega
theorem form_0 (l : List UInt8) (hl : l.length ≤ 9223372036854775804) (hk : 0 < l.length) (w0 : World) (m : Mem) (H : SHeap) :
    Does Try.prog 68 #[str l, .int .i64 0] w0 m H (Gives (.tuple #[.int .i32 ((formN l).1 : Int), .int .i64 ((formN l).2 : Int)]) m H) := form_any l 0 hl hk w0 m H
attribute [local irreducible] formN padded dl
theorem sq_R32_1 {G : Prop} (h : G := by (repeat (first | (refine sp ?_; (repeat intro zzc)) | (refine iF 68 rfl ?_; refine w_callG Try.func68 ?_ (hs := form_0 _ (by omega) (by omega) _ _ _)))); exact WQ.q1 rfl) : G := h
theorem st_R32_1 {G G' : Prop} (next : G') (h : Bx G' → G := by intro zzn; (first | ((refine st ?_; (repeat intro zzc)); (try ((first | (refine iF 68 rfl ?_; refine w_callG Try.func68 ?_ (hs := form_0 _ (by omega) (by omega) _ _ _)) | ((refine iDraw ?_; (first | refine WC.drawAll rfl (by decide +kernel) ?_ | refine WC.draw 1 rfl (by decide +kernel) ?_ | refine WC.draw 2 rfl (by decide +kernel) ?_ | refine WC.draw 3 rfl (by decide +kernel) ?_ | refine WC.draw 4 rfl (by decide +kernel) ?_ | refine WC.draw 5 rfl (by decide +kernel) ?_ | refine WC.draw 6 rfl (by decide +kernel) ?_ | refine WC.draw 7 rfl (by decide +kernel) ?_ | refine WC.draw 8 rfl (by decide +kernel) ?_ | refine WC.draw 9 rfl (by decide +kernel) ?_ | refine WC.draw 10 rfl (by decide +kernel) ?_ | refine WC.draw 11 rfl (by decide +kernel) ?_ | refine WC.draw 12 rfl (by decide +kernel) ?_ | refine WC.draw 13 rfl (by decide +kernel) ?_ | refine WC.draw 14 rfl (by decide +kernel) ?_ | refine WC.draw 15 rfl (by decide +kernel) ?_ | refine WC.draw 16 rfl (by decide +kernel) ?_ | refine WC.draw 17 rfl (by decide +kernel) ?_ | refine WC.draw 18 rfl (by decide +kernel) ?_ | refine WC.draw 19 rfl (by decide +kernel) ?_ | refine WC.draw 20 rfl (by decide +kernel) ?_ | refine WC.draw 21 rfl (by decide +kernel) ?_ | refine WC.draw 22 rfl (by decide +kernel) ?_ | refine WC.draw 23 rfl (by decide +kernel) ?_ | refine WC.draw 24 rfl (by decide +kernel) ?_)); (repeat (refine WD.cons rfl (fun c h => by cases h) sq_R32_1 ?_)); refine WD.nil ?_)); (try (refine st ?_; (repeat intro zzc)))))) | ((first | (refine iF 68 rfl ?_; refine w_callG Try.func68 ?_ (hs := form_0 _ (by omega) (by omega) _ _ _)) | ((refine iDraw ?_; (first | refine WC.drawAll rfl (by decide +kernel) ?_ | refine WC.draw 1 rfl (by decide +kernel) ?_ | refine WC.draw 2 rfl (by decide +kernel) ?_ | refine WC.draw 3 rfl (by decide +kernel) ?_ | refine WC.draw 4 rfl (by decide +kernel) ?_ | refine WC.draw 5 rfl (by decide +kernel) ?_ | refine WC.draw 6 rfl (by decide +kernel) ?_ | refine WC.draw 7 rfl (by decide +kernel) ?_ | refine WC.draw 8 rfl (by decide +kernel) ?_ | refine WC.draw 9 rfl (by decide +kernel) ?_ | refine WC.draw 10 rfl (by decide +kernel) ?_ | refine WC.draw 11 rfl (by decide +kernel) ?_ | refine WC.draw 12 rfl (by decide +kernel) ?_ | refine WC.draw 13 rfl (by decide +kernel) ?_ | refine WC.draw 14 rfl (by decide +kernel) ?_ | refine WC.draw 15 rfl (by decide +kernel) ?_ | refine WC.draw 16 rfl (by decide +kernel) ?_ | refine WC.draw 17 rfl (by decide +kernel) ?_ | refine WC.draw 18 rfl (by decide +kernel) ?_ | refine WC.draw 19 rfl (by decide +kernel) ?_ | refine WC.draw 20 rfl (by decide +kernel) ?_ | refine WC.draw 21 rfl (by decide +kernel) ?_ | refine WC.draw 22 rfl (by decide +kernel) ?_ | refine WC.draw 23 rfl (by decide +kernel) ?_ | refine WC.draw 24 rfl (by decide +kernel) ?_)); (repeat (refine WD.cons rfl (fun c h => by cases h) sq_R32_1 ?_)); refine WD.nil ?_)); (try (refine st ?_; (repeat intro zzc))))); (repeat ((first | (refine iF 68 rfl ?_; refine w_callG Try.func68 ?_ (hs := form_0 _ (by omega) (by omega) _ _ _)) | ((refine iDraw ?_; (first | refine WC.drawAll rfl (by decide +kernel) ?_ | refine WC.draw 1 rfl (by decide +kernel) ?_ | refine WC.draw 2 rfl (by decide +kernel) ?_ | refine WC.draw 3 rfl (by decide +kernel) ?_ | refine WC.draw 4 rfl (by decide +kernel) ?_ | refine WC.draw 5 rfl (by decide +kernel) ?_ | refine WC.draw 6 rfl (by decide +kernel) ?_ | refine WC.draw 7 rfl (by decide +kernel) ?_ | refine WC.draw 8 rfl (by decide +kernel) ?_ | refine WC.draw 9 rfl (by decide +kernel) ?_ | refine WC.draw 10 rfl (by decide +kernel) ?_ | refine WC.draw 11 rfl (by decide +kernel) ?_ | refine WC.draw 12 rfl (by decide +kernel) ?_ | refine WC.draw 13 rfl (by decide +kernel) ?_ | refine WC.draw 14 rfl (by decide +kernel) ?_ | refine WC.draw 15 rfl (by decide +kernel) ?_ | refine WC.draw 16 rfl (by decide +kernel) ?_ | refine WC.draw 17 rfl (by decide +kernel) ?_ | refine WC.draw 18 rfl (by decide +kernel) ?_ | refine WC.draw 19 rfl (by decide +kernel) ?_ | refine WC.draw 20 rfl (by decide +kernel) ?_ | refine WC.draw 21 rfl (by decide +kernel) ?_ | refine WC.draw 22 rfl (by decide +kernel) ?_ | refine WC.draw 23 rfl (by decide +kernel) ?_ | refine WC.draw 24 rfl (by decide +kernel) ?_)); (repeat (refine WD.cons rfl (fun c h => by cases h) sq_R32_1 ?_)); refine WD.nil ?_)); (try (refine st ?_; (repeat intro zzc))))); (repeat revert zzc); exact zzn.out) : G := h ⟨next⟩
theorem lacks_any (b : List UInt8) (h0 : 0 < b.length) (hl : b.length ≤ 1048576) (w0 : World) (m : Mem) (H : SHeap) :
    Does Try.prog 81 #[str b] w0 m H (Gives (.int .i64 (lackOf b : Int)) m H) := by
  refine Does.of_body (args := [str b]) Try.func81 rfl Try.ntmps81 rfl ?_
  have hc0 := nb_lt b 0
  generalize hx : gb b 0 = x at hc0
  have hx' : nb b 0 = x := hx
  (try (refine st_R32_1 ?_; intros))
  rw [hx]
  (try (refine st_R32_1 ?_; intros))
  refine WC.join (fun r' ds' m' H' => ∃ n : Nat, n = refN x ∧ r' = [(3, .int .i64 (n : Int)), (0, str b)] ∧ ds' = [] ∧ m' = m ∧ H' = H) ?_ ?_
  · by_cases g1 : 240 ≤ x
    · (try (refine st_R32_1 ?_; intros))
      exact WQ.join ⟨4, by simp [refN, g1], rfl, rfl, rfl, rfl⟩ (by (repeat (first | exact Env.Sub.nil | refine Env.Sub.cons rfl ?_))) (fun w h => Pick.sat (by iterate 60 (try (first | exact Pick.all | (apply Pick.take; (· (repeat (first | exact Out.here | apply Out.there)))) | apply Pick.drop))) h)
    by_cases g2 : 224 ≤ x
    · (try (refine st_R32_1 ?_; intros))
      exact WQ.join ⟨3, by simp [refN, g1, g2], rfl, rfl, rfl, rfl⟩ (by (repeat (first | exact Env.Sub.nil | refine Env.Sub.cons rfl ?_))) (fun w h => Pick.sat (by iterate 60 (try (first | exact Pick.all | (apply Pick.take; (· (repeat (first | exact Out.here | apply Out.there)))) | apply Pick.drop))) h)
    by_cases g3 : 192 ≤ x
    · (try (refine st_R32_1 ?_; intros))
      exact WQ.join ⟨2, by simp [refN, g1, g2, g3], rfl, rfl, rfl, rfl⟩ (by (repeat (first | exact Env.Sub.nil | refine Env.Sub.cons rfl ?_))) (fun w h => Pick.sat (by iterate 60 (try (first | exact Pick.all | (apply Pick.take; (· (repeat (first | exact Out.here | apply Out.there)))) | apply Pick.drop))) h)
    (try (refine st_R32_1 ?_; intros))
    exact WQ.join ⟨0, by simp [refN, g1, g2, g3], rfl, rfl, rfl, rfl⟩ (by (repeat (first | exact Env.Sub.nil | refine Env.Sub.cons rfl ?_))) (fun w h => Pick.sat (by iterate 60 (try (first | exact Pick.all | (apply Pick.take; (· (repeat (first | exact Out.here | apply Out.there)))) | apply Pick.drop))) h)
  rintro _ _ m H ⟨n, hn, rfl, rfl, rfl, rfl⟩
  have hnc := refN_cases x
  rw [← hn] at hnc
  by_cases hbn : n ≤ b.length
  · have hlk : lackOf b = 0 := lack_long (by rw [hx', ← hn]; omega)
    (try (refine st_R32_1 ?_; intros))
    (refine q_fin0 ?_)
    exact Gives.mk (by rw [hlk]; rfl)
  have hlp := lack_pad h0 (by rw [hx', ← hn]; omega)
  rw [hx', ← hn] at hlp
  (refine st_R32_1 ?_; intros; rename_i q)
  refine WC.blkRow (sz := 1) (es := ([128, 191] : List UInt8).map bV) (by (repeat (first | exact Out.here | apply Out.there))) rfl (by simp [bV]) ?_
  refine WC.loopH [(27, .int .i64 ((0) : Int)), (26, .int .i64 2), (25, .slice (some ⟨q, 0, none⟩) 2 2), (3, .int .i64 (n : Int)), (0, str b)] ?_ ?_ (fun j r ds m' H' => ∃ i, j = 2 - i ∧ r = [(27, .int .i64 (i : Int)), (26, .int .i64 2), (25, .slice (some ⟨q, 0, none⟩) 2 2), (3, .int .i64 (n : Int)), (0, str b)] ∧ ds = [] ∧ m = m' ∧ H' = .row (some ⟨q, 0, none⟩) (([128, 191] : List UInt8).map bV).length 5 1 (([128, 191] : List UInt8).map bV) :: H ∧ (i ≤ ([128, 191] : List UInt8).length) ∧ (∀ c ∈ ([128, 191] : List UInt8).take i, (dl (padded b c)).2 ≠ n)) (2 - (0)) ⟨0, rfl, rfl, rfl, rfl, rfl, by simp, by simp⟩ ?_
  · (repeat (first | exact Env.Sub.nil | refine Env.Sub.cons rfl ?_))
  · exact (fun w h => Pick.sat (by iterate 60 (try (first | exact Pick.all | (apply Pick.take; (· (repeat (first | exact Out.here | apply Out.there)))) | apply Pick.drop))) h)
  rintro j r ds m' H' ⟨i, rfl, rfl, rfl, rfl, rfl, hi, hno⟩
  have h2 : ([128, 191] : List UInt8).length = 2 := rfl
  by_cases hlt : i < ([128, 191] : List UInt8).length
  · obtain ⟨c, hc, hget, htk, hmem, hdr⟩ := at_idx (f := bV) hlt
    (refine st_R32_1 ?_; intros; rename_i y cy)
    refine WC.loopH [(6, .slice (some ⟨y, 0, none⟩) (b.length + (0)) (cy)), (5, .int .u8 (c.toNat : Int)), (27, .int .i64 (i : Int)), (26, .int .i64 2), (25, .slice (some ⟨q, 0, none⟩) 2 2), (3, .int .i64 (n : Int)), (0, str b)] ?_ ?_ (fun j r ds m' H' => ∃ k a2 c2 S, j = n - k ∧ r = [(6, .slice a2 (b.length + k) c2), (5, .int .u8 (c.toNat : Int)), (27, .int .i64 (i : Int)), (26, .int .i64 2), (25, .slice (some ⟨q, 0, none⟩) 2 2), (3, .int .i64 (n : Int)), (0, str b)] ∧ ds = [] ∧ m = m' ∧ H' = .row a2 c2 5 1 (S.map fun b => [Value.int .u8 (b.toNat : Int)]) :: .row (some ⟨q, 0, none⟩) (([128, 191] : List UInt8).map bV).length 5 1 (([128, 191] : List UInt8).map bV) :: H ∧ (b.length + k ≤ n) ∧ (S = b ++ List.replicate k c)) (n - (0)) ⟨0, some ⟨y, 0, none⟩, cy, b, rfl, rfl, rfl, rfl, rfl, by omega, by simp⟩ ?_
    · (repeat (first | exact Env.Sub.nil | refine Env.Sub.cons rfl ?_))
    · exact (fun w h => Pick.sat (by iterate 60 (try (first | exact Pick.all | (apply Pick.take; (· (repeat (first | exact Out.here | apply Out.there)))) | apply Pick.drop))) h)
    rintro j r ds m' H' ⟨k, a2, c2, S, rfl, rfl, rfl, rfl, rfl, hk, hS⟩
    have hSl : S.length = b.length + k := by rw [hS]; simp
    have hbk : (S.map fun b => [Value.int .u8 (b.toNat : Int)]).length = b.length + k := by simp [hSl]
    by_cases hkn : b.length + k < n
    · have em : (S.map fun b => [Value.int .u8 (b.toNat : Int)]) ++ [[Value.int .u8 (c.toNat : Int)]] = (S ++ [c]).map fun b => [Value.int .u8 (b.toNat : Int)] := by simp
      (refine st_R32_1 ?_; intros; rename_i a3 c3)
      rw [em, hbk]
      refine WQ.next (n - (k + 1)) ⟨k + 1, a3, c3, S ++ [c], rfl, rfl, rfl, rfl, rfl, ?_, ?_⟩ (by omega) (by (repeat (first | exact Env.Sub.nil | refine Env.Sub.cons rfl ?_))) (fun w h => Pick.sat (by iterate 60 (try (first | exact Pick.all | (apply Pick.take; (· (repeat (first | exact Out.here | apply Out.there)))) | apply Pick.drop))) h)
      · omega
      · rw [hS, List.append_assoc, List.replicate_succ']
    · have e : S = padded b c := by rw [hS, padded, hx', ← hn, show n - b.length = k by omega]
      (try (refine st_R32_1 ?_; intros))
      refine WL.rowStr (s := S) rfl hSl.symm (by (repeat (first | exact List.Mem.head _ | apply List.Mem.tail))) rfl rfl rfl rfl rfl ?_
      rw [e]
      have hpl : 0 < (padded b c).length := by rw [← e]; omega
      have hpl2 : (padded b c).length ≤ 2000000 := by rw [← e]; omega
      by_cases hd : (formN (padded b c)).2 = n
      · have hdl := (formN_two (n := n) (by omega)).1 hd
        have hlk : lackOf b = n - b.length := by
          rw [hlp, if_pos]
          rcases List.mem_cons.1 hmem with rfl | hm
          · exact .inl hdl
          · rcases List.mem_cons.1 hm with rfl | hm
            · exact .inr hdl
            · simp at hm
        (try (refine st_R32_1 ?_; intros))
        (refine q_fin0 ?_)
        refine Gives.mk ?_
        rw [hlk, show ((n - b.length : Nat) : Int) = (n : Int) - (b.length : Int) by omega]
      · have hdl := fun h => hd ((formN_two (n := n) (by omega)).2 h)
        (try (refine st_R32_1 ?_; intros))
        refine WQ.next (2 - (i + 1)) ⟨i + 1, rfl, rfl, rfl, rfl, rfl, ?_, ?_⟩ (by omega) (by (repeat (first | exact Env.Sub.nil | refine Env.Sub.cons rfl ?_))) (fun w h => Pick.sat (by iterate 60 (try (first | exact Pick.all | (apply Pick.take; (· (repeat (first | exact Out.here | apply Out.there)))) | apply Pick.drop))) h)
        · omega
        · rw [htk]; intro u hu
          rcases List.mem_append.1 hu with h | h
          · exact hno u h
          · simp at h; subst h; exact hdl
  · (try (refine st_R32_1 ?_; intros))
    (refine q_fin0 ?_)
    refine Gives.mk ?_
    rw [hlp, if_neg]
    · rfl
    · obtain rfl : i = 2 := by omega
      rintro (h | h)
      · exact hno 128 (by simp) h
      · exact hno 191 (by simp) h
end Go.Proofs.Ytdmdabjaboigcaa

/-
  The walks of package runes and of its reference, eleventh part: the boundaries next to a place, and the law. No condition.
-/
namespace Go.Proofs.Ytdmdabjaboigcaa
open Go Go.Eng
set_option maxRecDepth 100000
set_option maxHeartbeats 4000000
set_option linter.all false
attribute [local irreducible] WL WC WQ QFun QLoop Does Q1 QRound QAssign Go.Addr.add
theorem refAround_any (l : List UInt8) (k : Nat) (hl : l.length ≤ 5000000000000) (hk : k ≤ l.length) (w0 : World) (m : Mem) (H : SHeap) :
    Does Try.prog 31 #[str l, .int .i64 (k : Int)] w0 m H (Gives (spanV (leOf k (endsOf l) 0) (geOf k (endsOf l) 0)) m H) := by
  refine Does.of_body (args := [str l, .int .i64 (k : Int)]) Try.func31 rfl Try.ntmps31 rfl ?_
  have hel := ends_length l
  have hem : ((endsOf l).map iV).length = (endsOf l).length := by simp
  (try (refine st ?_; intros))
  refine w_callF Try.func71 ?_ (hs := refEnds_any _ hl _ _ _)
  rintro _ m H1 ⟨a, cap, rfl, rfl, rfl⟩
  (refine st ?_; intros; rename_i b4 bk)
  refine WC.loopW [(14, .int .i64 0), (13, .int .i64 (((endsOf l).map iV).length : Int)), (12, .slice a ((endsOf l).map iV).length cap), (6, .slice a ((endsOf l).map iV).length cap), (1, .int .i64 (k : Int)), (5, .pointer (some ⟨bk, 0, none⟩)), (4, .pointer (some ⟨b4, 0, none⟩))] ?_
    (fun j r ds m' H' => ∃ i, j = (endsOf l).length - i ∧ i ≤ (endsOf l).length ∧ r = [(14, .int .i64 (i : Int)), (13, .int .i64 (((endsOf l).map iV).length : Int)), (12, .slice a ((endsOf l).map iV).length cap), (6, .slice a ((endsOf l).map iV).length cap), (1, .int .i64 (k : Int)), (5, .pointer (some ⟨bk, 0, none⟩)), (4, .pointer (some ⟨b4, 0, none⟩))] ∧ ds = [] ∧ m' = m ∧
      H' = .row a cap 3 1 ((endsOf l).map iV) :: .blk bk (.cells [.int .i64 (leOf k ((endsOf l).take i) 0 : Int), .int .i64 0].toArray 42 (0, 0)) :: .blk b4 (.cells [.int .i64 0, .int .i64 0].toArray 42 (0, 0)) :: H) (endsOf l).length ⟨0, rfl, by omega, rfl, rfl, rfl, rfl⟩ ?_
  · (repeat (first | exact Env.Sub.nil | refine Env.Sub.cons rfl ?_))
  rintro j r ds m' H' ⟨i, rfl, hi, rfl, rfl, rfl, rfl⟩
  by_cases hlt : i < (endsOf l).length
  · have hget : ((endsOf l).map iV)[i]? = some [.int .i64 (((endsOf l)[i] : Nat) : Int)] := by rw [List.getElem?_map, List.getElem?_eq_getElem hlt]; rfl
    have htk := List.take_succ_eq_append_getElem hlt
    generalize hp : (endsOf l)[i] = p at hget htk
    refine WC.rowSome (a := a) (by (repeat (first | exact List.Mem.head _ | apply List.Mem.tail))) (by omega) ?_
    rintro a0 rfl
    (try (refine st ?_; intros))
    (first | refine c_ways (fun h1 => ?_) (fun h1 => ?_) | refine c_nways (fun h1 => ?_) (fun h1 => ?_) | refine w_gways (fun h1 => ?_) (fun h1 => ?_) | refine w_gnways (fun h1 => ?_) (fun h1 => ?_))
    · (try (refine st ?_; intros))
      refine WQ.next ((endsOf l).length - (i + 1)) ⟨i + 1, rfl, by omega, rfl, rfl, rfl, rfl⟩ (by omega) (by (repeat (first | exact Env.Sub.nil | refine Env.Sub.cons rfl ?_))) ?_
      rw [htk, leOf_append, leOf, if_pos (by omega)]
      exact fun w h => h
    · (try (refine st ?_; intros))
      refine WQ.next ((endsOf l).length - (i + 1)) ⟨i + 1, rfl, by omega, rfl, rfl, rfl, rfl⟩ (by omega) (by (repeat (first | exact Env.Sub.nil | refine Env.Sub.cons rfl ?_))) ?_
      rw [htk, leOf_append, leOf, if_neg (by omega)]
      exact fun w h => h
  · obtain rfl : i = (endsOf l).length := by omega
    rw [List.take_length]
    (try (refine st ?_; intros))
    refine WC.loopW [(9, .int .i64 ((((endsOf l).map iV).length : Int) - 1)), (6, .slice a ((endsOf l).map iV).length cap), (1, .int .i64 (k : Int)), (5, .pointer (some ⟨bk, 0, none⟩)), (4, .pointer (some ⟨b4, 0, none⟩))] ?_
      (fun j r ds m1 H1 => j ≤ (endsOf l).length ∧ r = [(9, .int .i64 ((j : Int) - 1)), (6, .slice a ((endsOf l).map iV).length cap), (1, .int .i64 (k : Int)), (5, .pointer (some ⟨bk, 0, none⟩)), (4, .pointer (some ⟨b4, 0, none⟩))] ∧ ds = [] ∧ m1 = m' ∧
        H1 = .row a cap 3 1 ((endsOf l).map iV) :: .blk bk (.cells [.int .i64 (leOf k (endsOf l) 0 : Int), .int .i64 (geOf k ((endsOf l).drop j) 0 : Int)].toArray 42 (0, 0)) :: .blk b4 (.cells [.int .i64 0, .int .i64 0].toArray 42 (0, 0)) :: H) (endsOf l).length ⟨by omega, by rw [hem], rfl, rfl, by rw [List.drop_length]; rfl⟩ ?_
    · (repeat (first | exact Env.Sub.nil | refine Env.Sub.cons rfl ?_))
    rintro j r ds m1 H1 ⟨hj, rfl, rfl, rfl, rfl⟩
    by_cases hj1 : 1 ≤ j
    · obtain ⟨i, rfl⟩ : ∃ i, j = i + 1 := ⟨j - 1, by omega⟩
      have hget : ((endsOf l).map iV)[i]? = some [.int .i64 (((endsOf l)[i] : Nat) : Int)] := by rw [List.getElem?_map, List.getElem?_eq_getElem (by omega)]; rfl
      have hdr := List.drop_eq_getElem_cons (show i < (endsOf l).length by omega)
      generalize hp : (endsOf l)[i] = p at hget hdr
      refine WC.rowSome (a := a) (by (repeat (first | exact List.Mem.head _ | apply List.Mem.tail))) (by omega) ?_
      rintro a0 rfl
      refine WC.rename 9 (u := .int .i64 (i : Int)) rfl (vi (by omega)) ?_
      (try (refine st ?_; intros))
      (first | refine c_ways (fun h1 => ?_) (fun h1 => ?_) | refine c_nways (fun h1 => ?_) (fun h1 => ?_) | refine w_gways (fun h1 => ?_) (fun h1 => ?_) | refine w_gnways (fun h1 => ?_) (fun h1 => ?_))
      · (try (refine st ?_; intros))
        refine WQ.next i ⟨by omega, rfl, rfl, rfl, rfl⟩ (by omega) (by (repeat (first | exact Env.Sub.nil | refine Env.Sub.cons rfl ?_))) ?_
        rw [hdr, geOf, if_pos (by omega)]
        exact fun w h => h
      · (try (refine st ?_; intros))
        refine WQ.next i ⟨by omega, rfl, rfl, rfl, rfl⟩ (by omega) (by (repeat (first | exact Env.Sub.nil | refine Env.Sub.cons rfl ?_))) ?_
        rw [hdr, geOf, if_neg (by omega)]
        exact fun w h => h
    · obtain rfl : j = 0 := by omega
      (try (refine st ?_; intros))
      (refine q_fin0 ?_)
      exact Gives.mk rfl
end Go.Proofs.Ytdmdabjaboigcaa

