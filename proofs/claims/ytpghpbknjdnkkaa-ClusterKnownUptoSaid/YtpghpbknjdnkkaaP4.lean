/-
  Parts of a walk, joined: EngS EngW EngX EngY EngZ EngZA EngZB EngZC EngZD EngZF EngZG EngT CSH C12 EngZE RT2 RT3 RT7 RT4 RT8 RT9 RT16 CT1 C1. No condition.
-/
import Derived.Test.YtpghpbknjdnkkaaP3
import Derived.Lib.Builder
import Derived.Lib.UnsafeStr
import Derived.Laws.Externs
import Derived.Shelf.Strings.Builder1
import Derived.Shelf.Strings.Builder2
import Derived.Shelf.Strings.BuilderF
import Derived.Shelf.Strings.Search1
import Derived.Shelf.Strings.Search2
import Derived.Shelf.Strings.Search3
import Derived.Shelf.LaysM
import Derived.Shelf.Strings.Shaped
import Derived.Shelf.Strings.Prefix
import Derived.Shelf.Bits.Mul64
import Derived.Shelf.Strings.Repeat
import Derived.Test.YtpghpbknjdnkkaaProg
import Derived.Test.YtpghpbknjdnkkaaP2
set_option linter.all false
/-
  A walk's engine, eighteenth part: a region that draws its order, where some operations change the heap: what is calm is done first, what acts is done in every order that there is. No condition.
-/
set_option linter.all false
namespace Go.Eng
open Go Go.RowKit
/-- what an operation owes that may change the heap -/
def QE (w0 : World) (d : Nat) (ds : List Nat) (S : SHeap) (m : Mem) (K : Value → Mem → SHeap → SHeap → Prop) : Exit → Act → World → Prop
  | .normal, a, w => ∃ v m' B U, a.tmps[d]? = some v ∧ a.defers = marks ds ∧ m.le m' ∧ Sat w0 m' (S ++ B ++ U) w ∧ K v m' (S ++ B) U
  | _, _, _ => False
/-- the same of an operation without an answer: a store -/
def QN (w0 : World) (ds : List Nat) (S : SHeap) (m : Mem) (K : Mem → SHeap → SHeap → Prop) : Exit → Act → World → Prop
  | .normal, a, w => ∃ m' B U, a.defers = marks ds ∧ m.le m' ∧ Sat w0 m' (S ++ B ++ U) w ∧ K m' (S ++ B) U
  | _, _, _ => False
def readyV (V : Nat) (o : Oper) : Prop := ∀ e ∈ o.after, bind1 e = true → V.testBit e.on = true
section
variable {P : Program} {ro : Option Nat} {n : Nat} {w0 : World} {Q : Exit → Act → World → Prop} {r : Env} {ds : List Nat} {m : Mem} {H : SHeap}
theorem WQ.acted {d : Nat} {S B U : SHeap} {m0 : Mem} {K : Value → Mem → SHeap → SHeap → Prop} {v : Value} (hv : r.get d = some v) (hm : m0.le m) (hh : ∀ w, Sat w0 m H w → Sat w0 m (S ++ B ++ U) w) (hK : K v m (S ++ B) U) :
    WQ n w0 (QE w0 d ds S m0 K) .normal r ds m H := fun _ w ho hs => ⟨v, m, B, U, ho.at_ _ _ hv, rfl, hm, hh w hs, hK⟩
theorem WQ.stored {S B U : SHeap} {m0 : Mem} {K : Mem → SHeap → SHeap → Prop} (hm : m0.le m) (hh : ∀ w, Sat w0 m H w → Sat w0 m (S ++ B ++ U) w) (hK : K m (S ++ B) U) :
    WQ n w0 (QN w0 ds S m0 K) .normal r ds m H := fun _ w _ hs => ⟨m, B, U, rfl, hm, hh w hs, hK⟩
/-- what is left of a region: V tells which operations are done, or calm; S is what none of them changes -/
def WE (P : Program) (ro : Option Nat) (n : Nat) (w0 : World) (l : List Oper) (g : Nat) (ds : List Nat) (K : Env → Mem → SHeap → SHeap → Prop) : Nat → Nat → Env → Mem → SHeap → SHeap → Prop
  | 0, _, _, _, _, _ => False
  | k + 1, V, r, m, S, U =>
    ((∀ i, i < g → V.testBit i = true) ∧ K r m S U) ∨
    (∃ i o d v, i < g ∧ l[i]? = some o ∧ V.testBit i = false ∧ readyV V o ∧ o.dst = some d ∧ (∀ c, o.op ≠ .defer c) ∧
      (∀ m' F, m.le m' → WL P ro n w0 l.toArray (Q1 w0 d v ds m' (S ++ F)) [o] (Env.sel (o.looksAt l.toArray) r) ds m' (S ++ F)) ∧
      WE P ro n w0 l g ds K k (V ||| 1 <<< i) ((d, v) :: r) m S U) ∨
    ((∃ i, i < g ∧ V.testBit i = false) ∧ ∀ i o, i < g → l[i]? = some o → V.testBit i = false → readyV V o → (∃ d, o.dst = some d ∧ (∀ c, o.op ≠ .defer c) ∧
      WL P ro n w0 l.toArray (QE w0 d ds S m fun v m' S' U' => WE P ro n w0 l g ds K k (V ||| 1 <<< i) ((d, v) :: r) m' S' U') [o] (Env.sel (o.looksAt l.toArray) r) ds m (S ++ U)) ∨
      (o.dst = none ∧ (∀ c, o.op ≠ .defer c) ∧ WL P ro n w0 l.toArray (QN w0 ds S m fun m' S' U' => WE P ro n w0 l g ds K k (V ||| 1 <<< i) r m' S' U') [o] (Env.sel (o.looksAt l.toArray) r) ds m (S ++ U)))
theorem bit_set (V i j : Nat) : (V ||| 1 <<< i).testBit j = (V.testBit j || decide (i = j)) := by
  rw [Nat.testBit_or, Nat.one_shiftLeft, Nat.testBit_two_pow]
theorem bit_keep {V i j : Nat} (h : V.testBit j = true) : (V ||| 1 <<< i).testBit j = true := by rw [bit_set, h]; rfl
theorem bit_self (V i : Nat) : (V ||| 1 <<< i).testBit i = true := by rw [bit_set]; simp
theorem bit_old {V i j : Nat} (h : (V ||| 1 <<< i).testBit j = true) (hne : j ≠ i) : V.testBit j = true := by
  rw [bit_set] at h
  have : decide (i = j) = false := by simp; exact fun e => hne e.symm
  simpa [this] using h
theorem mask_in {l : List Oper} {g : Nat} {M : List Nat} (ok : DrawOk l g M) {p : Nat → Prop} {b : Nat} (hb : b ≤ l.length) (hc : ∀ j o, j < b → l[j]? = some o → p j → ∀ e ∈ o.after, bind1 e = true → p e.on) :
    ∀ j o, j < b → l[j]? = some o → (∀ e ∈ o.after, bind1 e = true → p e.on) → ∀ i, (M.getD j 0).testBit i = true → p i := by
  intro j
  induction j using Nat.strongRecOn with
  | _ j ih =>
    intro o hjb ho hw i hi
    rw [← ok.sub j o ho, Nat.testBit_and, Bool.and_eq_true] at hi
    rcases mask_bits M o.after.toList 0 i hi.2 with h | ⟨e, he, hbd, h⟩
    · simp at h
    · have he' : e ∈ o.after := by simpa using he
      have hon := hw e he' hbd
      rcases h with rfl | h
      · exact hon
      · have hlt := ok.down j o ho e he' hbd
        have hl : e.on < l.length := by omega
        exact ih e.on hlt l[e.on] (by omega) (List.getElem?_eq_getElem hl) (hc e.on _ (by omega) (List.getElem?_eq_getElem hl) hon) i h
/-- from what an operation owes, whatever comes behind it -/
theorem wpOp_of_post {ops : Array Oper} {i : Nat} {o : Oper} {d : Nat} {tmps : Array Value} {w : World} {Qx : Exit → Act → World → Prop} {K : Act → World → Prop} (hi : ops[i]? = some o) (hd : o.dst = some d) (hnd : ∀ c, o.op ≠ .defer c)
    (hdf : ∀ a w, Qx .normal a w → a.defers = marks ds) (hbad : ∀ e a w, Qx e a w → e = .normal)
    (h : wpListIn (FW ro) 0 P ops Qx [o] ⟨tmps, marks ds⟩ w) (hK : ∀ v0 w', Qx .normal ⟨tmps.setIfInBounds d v0, marks ds⟩ w' → K ⟨tmps.setIfInBounds d v0, marks ds⟩ w') : wpOpIn (FW ro) 0 P ops Q i K ⟨tmps, marks ds⟩ w := by
  have key : ∀ v0 w', Qx .normal ((Act.mk tmps (marks ds)).put o.dst v0) w' → K ((Act.mk tmps (marks ds)).put o.dst v0) w' := by
    intro v0 w' hq
    rw [hd] at hq ⊢
    exact hK v0 w' hq
  unfold wpOpIn
  rw [hi]
  unfold wpListIn at h
  simp only
  split
  · rename_i hw
    rw [if_pos hw] at h
    refine ⟨h.1, ?_⟩
    have h2 := h.2
    rw [semAt_exec (FW ro).round _ _ hnd] at h2 ⊢
    generalize hr : (execOp (Act.mk tmps (marks ds)).eval o).run P w = res at *
    cases res with
    | ok x w' =>
      cases x <;> simp only [Oper.uponIn] at h2 ⊢
      case value v0 => exact key _ _ h2
      case skip => exact key _ _ h2
      case defer df =>
        exfalso
        have h4 := congrArg List.length (hdf _ _ h2)
        rw [hd] at h4
        simp [Act.put] at h4
      case enter f args => exact ⟨h2.1, CallsIn.mono h2.2 fun e w'' he => by
        cases e with
        | returned v0 => exact key _ _ he
        | panicked chain => exact absurd (hbad _ _ _ he) (by simp)
        | outgrown => obtain ⟨a, b, hh⟩ := he; exact absurd (hbad _ _ _ hh) (by simp)⟩
      case row rw' args => exact ⟨h2.1, RowsIn.mono h2.2 fun v0 w'' he => key _ _ he⟩
      case round l f tm asg bd => exact ⟨h2.1, RoundIn.mono h2.2 fun e w'' he => by
        cases e with
        | returned v0 => exact key _ _ he
        | panicked chain => exact absurd (hbad _ _ _ he) (by simp)
        | outgrown => obtain ⟨a, b, hh⟩ := he; exact absurd (hbad _ _ _ hh) (by simp)⟩
    | halt x w' =>
      cases x <;> simp only [Oper.uponIn] at h2 ⊢
      all_goals first | exact h2.elim | exact absurd (hbad _ _ _ h2) (by simp) | exact absurd (hbad _ _ _ h2.2) (by simp) | skip
  · rename_i hw
    rw [if_neg hw] at h
    exact ⟨h.1, key _ _ h.2⟩
/-- the same without an answer -/
theorem wpOp_of_postN {ops : Array Oper} {i : Nat} {o : Oper} {tmps : Array Value} {w : World} {Qx : Exit → Act → World → Prop} {K : Act → World → Prop} (hi : ops[i]? = some o) (hd : o.dst = none) (hnd : ∀ c, o.op ≠ .defer c)
    (hdf : ∀ a w, Qx .normal a w → a.defers = marks ds) (hbad : ∀ e a w, Qx e a w → e = .normal)
    (h : wpListIn (FW ro) 0 P ops Qx [o] ⟨tmps, marks ds⟩ w) (hK : ∀ w', Qx .normal ⟨tmps, marks ds⟩ w' → K ⟨tmps, marks ds⟩ w') : wpOpIn (FW ro) 0 P ops Q i K ⟨tmps, marks ds⟩ w := by
  have key : ∀ v0 w', Qx .normal ((Act.mk tmps (marks ds)).put o.dst v0) w' → K ((Act.mk tmps (marks ds)).put o.dst v0) w' := by
    intro v0 w' hq
    rw [hd] at hq ⊢
    exact hK w' hq
  unfold wpOpIn
  rw [hi]
  unfold wpListIn at h
  simp only
  split
  · rename_i hw
    rw [if_pos hw] at h
    refine ⟨h.1, ?_⟩
    have h2 := h.2
    rw [semAt_exec (FW ro).round _ _ hnd] at h2 ⊢
    generalize hr : (execOp (Act.mk tmps (marks ds)).eval o).run P w = res at *
    cases res with
    | ok x w' =>
      cases x <;> simp only [Oper.uponIn] at h2 ⊢
      case value v0 => exact key _ _ h2
      case skip => exact key _ _ h2
      case defer df =>
        exfalso
        have h4 := congrArg List.length (hdf _ _ h2)
        rw [hd] at h4
        simp [Act.put] at h4
      case enter f args => exact ⟨h2.1, CallsIn.mono h2.2 fun e w'' he => by
        cases e with
        | returned v0 => exact key _ _ he
        | panicked chain => exact absurd (hbad _ _ _ he) (by simp)
        | outgrown => obtain ⟨a, b, hh⟩ := he; exact absurd (hbad _ _ _ hh) (by simp)⟩
      case row rw' args => exact ⟨h2.1, RowsIn.mono h2.2 fun v0 w'' he => key _ _ he⟩
      case round l f tm asg bd => exact ⟨h2.1, RoundIn.mono h2.2 fun e w'' he => by
        cases e with
        | returned v0 => exact key _ _ he
        | panicked chain => exact absurd (hbad _ _ _ he) (by simp)
        | outgrown => obtain ⟨a, b, hh⟩ := he; exact absurd (hbad _ _ _ hh) (by simp)⟩
    | halt x w' =>
      cases x <;> simp only [Oper.uponIn] at h2 ⊢
      all_goals first | exact h2.elim | exact absurd (hbad _ _ _ h2) (by simp) | exact absurd (hbad _ _ _ h2.2) (by simp) | skip
  · rename_i hw
    rw [if_neg hw] at h
    exact ⟨h.1, key _ _ h.2⟩
theorem count_set {l : List Oper} {listed : Array Bool} {i : Nat} (hs : listed.size = l.length) (hil : i < l.length) (hnl : listed.getD i false = false) :
    ((List.range l.length).filter fun k => !(listed.setIfInBounds i true).getD k false).length < ((List.range l.length).filter fun k => !listed.getD k false).length := by
  have hsub : List.Sublist ((List.range l.length).filter fun k => !(listed.setIfInBounds i true).getD k false) (((List.range l.length).filter fun k => !listed.getD k false).erase i) := by
    have hnd : ((List.range l.length).filter fun k => !listed.getD k false).Nodup := List.Pairwise.filter _ List.nodup_range
    rw [hnd.erase_eq_filter, List.filter_filter]
    refine sub_of_eq ?_
    apply List.filter_congr
    intro k hk
    simp only [Array.getD_eq_getD_getElem?]
    by_cases hik : i = k
    · subst hik; simp [show i < listed.size by omega]
    · rw [Array.getElem?_setIfInBounds_ne hik]; simp [Ne.symm hik]
  have hmem : i ∈ (List.range l.length).filter fun k => !listed.getD k false := by simp only [List.mem_filter, List.mem_range]; exact ⟨hil, by rw [hnl]; rfl⟩
  have h5 := hsub.length_le
  rw [List.length_erase_of_mem hmem] at h5
  have := List.length_pos_of_mem hmem
  omega
theorem listed_set {listed : Array Bool} {i j : Nat} (h : (listed.setIfInBounds i true).getD j false = true) (hne : j ≠ i) : listed.getD j false = true := by
  simp only [Array.getD_eq_getD_getElem?] at h ⊢
  rwa [Array.getElem?_setIfInBounds_ne (fun e => hne e.symm)] at h
theorem listed_keep {listed : Array Bool} {i j : Nat} (h : listed.getD j false = true) : (listed.setIfInBounds i true).getD j false = true := by
  simp only [Array.getD_eq_getD_getElem?] at h ⊢
  by_cases hij : i = j
  · subst hij
    by_cases hlt : i < listed.size
    · simp [hlt]
    · simp [Array.getElem?_eq_none (Nat.le_of_not_lt hlt)] at h
  · rwa [Array.getElem?_setIfInBounds_ne hij]
structure DInv (P : Program) (ro : Option Nat) (n : Nat) (w0 : World) (l : List Oper) (g : Nat) (M : List Nat) (ds : List Nat) (S : SHeap) (r0 : Env) (V : Nat) (r : Env) (m : Mem) (val : Nat → Value) (listed : Array Bool) (tmps : Array Value) : Prop where
  env : ∀ t u, r.get t = some u → (∃ j o, j < g ∧ V.testBit j = true ∧ l[j]? = some o ∧ o.dst = some t ∧ val j = u) ∨ (r0.get t = some u ∧ ∀ j o, j < g → V.testBit j = true → l[j]? = some o → o.dst ≠ some t)
  vclosed : ∀ j o, j < g → l[j]? = some o → V.testBit j = true → readyV V o
  rcd : ∀ i o, i < g → l[i]? = some o → V.testBit i = true → listed.getD i false = false → ∃ d ri, o.dst = some d ∧ (∀ c, o.op ≠ .defer c) ∧
    (∀ t ∈ o.looksAt l.toArray, ∀ u, ri.get t = some u → (∃ j oj, j < g ∧ l[j]? = some oj ∧ oj.dst = some t ∧ val j = u ∧ ∃ e ∈ o.after, bind1 e = true ∧ e.on = j) ∨ (r0.get t = some u ∧ ∀ j oj, j < g → l[j]? = some oj → oj.dst = some t → (M.getD j 0).testBit i = true)) ∧
    ∀ m' F, m.le m' → WL P ro n w0 l.toArray (Q1 w0 d (val i) ds m' (S ++ F)) [o] (Env.sel (o.looksAt l.toArray) ri) ds m' (S ++ F)
  size : listed.size = l.length
  closed : Closed l listed
  sub : ∀ j, j < g → listed.getD j false = true → V.testBit j = true
  tail : ∀ j, g ≤ j → j < l.length → listed.getD j false = false
  tsize : tmps.size = n
  done : ∀ j o d, j < g → listed.getD j false = true → l[j]? = some o → o.dst = some d → tmps[d]? = some (val j)
  old : ∀ t u, r0.get t = some u → (∀ j o, j < g → listed.getD j false = true → l[j]? = some o → o.dst ≠ some t) → tmps[t]? = some u
section sound
variable {l : List Oper} {g : Nat} {M : List Nat} {S U : SHeap} {r0 : Env} {V : Nat} {val : Nat → Value} {listed : Array Bool} {tmps : Array Value} {w : World}
theorem DInv.vmask (ok : DrawOk l g M) (h : DInv P ro n w0 l g M ds S r0 V r m val listed tmps) {j i : Nat} {o : Oper} (hj : j < g) (ho : l[j]? = some o) (hr : readyV V o) (hb : (M.getD j 0).testBit i = true) : V.testBit i = true :=
  mask_in ok ok.le (p := fun j => V.testBit j = true) (fun j o hj ho hp => h.vclosed j o hj ho hp) j o hj ho hr i hb
/-- what is drawn and already calm -/
theorem DInv.deferred (ok : DrawOk l g M) (h : DInv P ro n w0 l g M ds S r0 V r m val listed tmps) (hsat : Sat w0 m (S ++ U) w) {i : Nat} {o : Oper} (hi : i < g) (ho : l[i]? = some o) (hV : V.testBit i = true) (hnl : listed.getD i false = false)
    (hw : ∀ e ∈ o.after, bind1 e = true → listed.getD e.on false = true) {K : Act → World → Prop}
    (hK : ∀ tmps' w', DInv P ro n w0 l g M ds S r0 V r m val (listed.setIfInBounds i true) tmps' → Sat w0 m (S ++ U) w' → K ⟨tmps', marks ds⟩ w') : wpOpIn (FW ro) 0 P l.toArray Q i K ⟨tmps, marks ds⟩ w := by
  obtain ⟨d, ri, hd, hnd, hri, hwl⟩ := h.rcd i o hi ho hV hnl
  refine wpOp_of_q1 (m := m) (H := S ++ U) (w0 := w0) (v := val i) (by simpa using ho) hd hnd ?_ ?_
  · refine hwl m U (Mem.le.refl _) tmps w ⟨h.tsize, fun t u ht => ?_⟩ hsat
    obtain ⟨hlook, hget⟩ := Env.sel_get ht
    rcases hri t hlook u hget with ⟨j, oj, hj, hoj, hdj, hv, e, he, hb, hon⟩ | ⟨h0, hno⟩
    · have := hw e he hb
      rw [hon] at this
      rw [h.done j oj t hj this hoj hdj, hv]
    · refine h.old t u h0 (fun j oj hj hjl hoj hdj => ?_)
      have := mask_listed ok h.closed j oj hoj (h.closed j oj hoj hjl) i (hno j oj hj hoj hdj)
      rw [hnl] at this; cases this
  · intro w' hsat' hdlt
    have hil := (List.getElem?_eq_some_iff.1 ho).1
    refine hK _ w' ⟨h.env, h.vclosed, ?_, by simp [h.size], closed_set h.closed ho hw, ?_, ?_, by simp [h.tsize], ?_, ?_⟩ hsat'
    · intro i' o' hi' ho' hV' hnl'
      refine h.rcd i' o' hi' ho' hV' ?_
      cases hq : listed.getD i' false with
      | false => rfl
      | true => rw [listed_keep hq] at hnl'; cases hnl'
    · intro j hj hjl
      by_cases e : j = i
      · subst e; exact hV
      · exact h.sub j hj (listed_set hjl e)
    · intro j hj hjl
      cases hq : (listed.setIfInBounds i true).getD j false with
      | false => rfl
      | true => have := listed_set hq (by omega); rw [h.tail j hj hjl] at this; cases this
    · intro j oj dj hj hjl hoj hdj
      by_cases e : j = i
      · subst e
        rw [ho] at hoj; cases hoj
        rw [hd] at hdj; cases hdj
        exact Array.getElem?_setIfInBounds_self_of_lt hdlt
      · have hne : d ≠ dj := fun e2 => by
          subst e2
          exact e (ok.dst j oj hj hoj _ hdj i o hi ho hd)
        rw [Array.getElem?_setIfInBounds_ne hne]
        exact h.done j oj dj hj (listed_set hjl e) hoj hdj
    · intro t u ht hno
      have hil' : (listed.setIfInBounds i true).getD i false = true := by simp [show i < listed.size by rw [h.size]; exact hil]
      have hne : d ≠ t := fun e => by subst e; exact hno i o hi hil' ho hd
      rw [Array.getElem?_setIfInBounds_ne hne]
      exact h.old t u ht (fun j oj hj hjl hoj => hno j oj hj (listed_keep hjl) hoj)
/-- one more is calm -/
theorem DInv.calm (ok : DrawOk l g M) (h : DInv P ro n w0 l g M ds S r0 V r m val listed tmps) {i d : Nat} {o : Oper} {v : Value} (hi : i < g) (ho : l[i]? = some o) (hV : V.testBit i = false) (hr : readyV V o) (hd : o.dst = some d) (hnd : ∀ c, o.op ≠ .defer c)
    (hwl : ∀ m' F, m.le m' → WL P ro n w0 l.toArray (Q1 w0 d v ds m' (S ++ F)) [o] (Env.sel (o.looksAt l.toArray) r) ds m' (S ++ F)) :
    DInv P ro n w0 l g M ds S r0 (V ||| 1 <<< i) ((d, v) :: r) m (fun j => if j = i then v else val j) listed tmps := by
  have hval : ∀ j, V.testBit j = true → (if j = i then v else val j) = val j := fun j hj => if_neg (fun e => by subst e; rw [hV] at hj; cases hj)
  refine ⟨?_, ?_, ?_, h.size, h.closed, fun j hj hjl => bit_keep (h.sub j hj hjl), h.tail, h.tsize, ?_, h.old⟩
  · intro t u ht
    simp only [Env.get] at ht
    cases hq : Nat.beq d t with
    | true =>
      have e := Nat.eq_of_beq_eq_true hq
      subst e
      simp [hq] at ht
      subst ht
      exact .inl ⟨i, o, hi, bit_self V i, ho, hd, if_pos rfl⟩
    | false =>
      simp [hq] at ht
      rcases h.env t u ht with ⟨j, oj, hj, hjV, hoj, hdj, hv⟩ | ⟨h0, hno⟩
      · exact .inl ⟨j, oj, hj, bit_keep hjV, hoj, hdj, by rw [hval j hjV]; exact hv⟩
      · refine .inr ⟨h0, fun j oj hj hjV hoj hdj => ?_⟩
        by_cases e : j = i
        · subst e
          rw [ho] at hoj; cases hoj
          rw [hd] at hdj; cases hdj
          exact Nat.ne_of_beq_eq_false hq rfl
        · exact hno j oj hj (bit_old hjV e) hoj hdj
  · intro j oj hj hoj hjV e he hb
    by_cases e2 : j = i
    · subst e2
      rw [ho] at hoj; cases hoj
      exact bit_keep (hr e he hb)
    · exact bit_keep (h.vclosed j oj hj hoj (bit_old hjV e2) e he hb)
  · intro i' o' hi' ho' hV' hnl'
    by_cases e : i' = i
    · subst e
      rw [ho] at ho'; cases ho'
      refine ⟨d, r, hd, hnd, ?_, ?_⟩
      · intro t hlook u hget
        rcases h.env t u hget with ⟨j, oj, hj, hjV, hoj, hdj, hv⟩ | ⟨h0, hno⟩
        · rcases ok.reads i' o hi ho t hlook j oj hj hoj hdj with ⟨_, e, he, hb, hon⟩ | ⟨_, hbit⟩
          · exact .inl ⟨j, oj, hj, hoj, hdj, by rw [hval j hjV]; exact hv, e, he, hb, hon⟩
          · have := h.vmask ok hj hoj (h.vclosed j oj hj hoj hjV) hbit
            rw [hV] at this; cases this
        · refine .inr ⟨h0, fun j oj hj hoj hdj => ?_⟩
          rcases ok.reads i' o hi ho t hlook j oj hj hoj hdj with ⟨_, e, he, hb, hon⟩ | ⟨_, hbit⟩
          · have := hr e he hb
            rw [hon] at this
            exact absurd hdj (hno j oj hj this hoj)
          · exact hbit
      · simp only [if_true]
        exact hwl
    · have hVo := bit_old hV' e
      obtain ⟨d', ri, k1, k2, k3, k4⟩ := h.rcd i' o' hi' ho' hVo hnl'
      refine ⟨d', ri, k1, k2, ?_, by rw [hval i' hVo]; exact k4⟩
      intro t hlook u hget
      rcases k3 t hlook u hget with ⟨j, oj, hj, hoj, hdj, hv, e', he', hb', hon'⟩ | h2
      · have hjV : V.testBit j = true := by have := h.vclosed i' o' hi' ho' hVo e' he' hb'; rwa [hon'] at this
        exact .inl ⟨j, oj, hj, hoj, hdj, by rw [hval j hjV]; exact hv, e', he', hb', hon'⟩
      · exact .inr h2
  · intro j oj dj hj hjl hoj hdj
    rw [hval j (h.sub j hj hjl)]
    exact h.done j oj dj hj hjl hoj hdj
/-- one acts -/
theorem DInv.act (ok : DrawOk l g M) (h : DInv P ro n w0 l g M ds S r0 V r m val listed tmps) {i d : Nat} {o : Oper} {v : Value} {m' : Mem} {B : SHeap} (hi : i < g) (ho : l[i]? = some o) (hV : V.testBit i = false)
    (hw : ∀ e ∈ o.after, bind1 e = true → listed.getD e.on false = true) (hd : o.dst = some d) (hm : m.le m') (hdlt : d < tmps.size) :
    DInv P ro n w0 l g M ds (S ++ B) r0 (V ||| 1 <<< i) ((d, v) :: r) m' (fun j => if j = i then v else val j) (listed.setIfInBounds i true) (tmps.setIfInBounds d v) := by
  have hval : ∀ j, V.testBit j = true → (if j = i then v else val j) = val j := fun j hj => if_neg (fun e => by subst e; rw [hV] at hj; cases hj)
  have hil := (List.getElem?_eq_some_iff.1 ho).1
  have hr : readyV V o := fun e he hb => h.sub e.on (by have := ok.down i o ho e he hb; omega) (hw e he hb)
  refine ⟨?_, ?_, ?_, by simp [h.size], closed_set h.closed ho hw, ?_, ?_, by simp [h.tsize], ?_, ?_⟩
  · intro t u ht
    simp only [Env.get] at ht
    cases hq : Nat.beq d t with
    | true =>
      have e := Nat.eq_of_beq_eq_true hq
      subst e
      simp [hq] at ht
      subst ht
      exact .inl ⟨i, o, hi, bit_self V i, ho, hd, if_pos rfl⟩
    | false =>
      simp [hq] at ht
      rcases h.env t u ht with ⟨j, oj, hj, hjV, hoj, hdj, hv⟩ | ⟨h0, hno⟩
      · exact .inl ⟨j, oj, hj, bit_keep hjV, hoj, hdj, by rw [hval j hjV]; exact hv⟩
      · refine .inr ⟨h0, fun j oj hj hjV hoj hdj => ?_⟩
        by_cases e : j = i
        · subst e
          rw [ho] at hoj; cases hoj
          rw [hd] at hdj; cases hdj
          exact Nat.ne_of_beq_eq_false hq rfl
        · exact hno j oj hj (bit_old hjV e) hoj hdj
  · intro j oj hj hoj hjV e he hb
    by_cases e2 : j = i
    · subst e2
      rw [ho] at hoj; cases hoj
      exact bit_keep (hr e he hb)
    · exact bit_keep (h.vclosed j oj hj hoj (bit_old hjV e2) e he hb)
  · intro i' o' hi' ho' hV' hnl'
    have e : i' ≠ i := fun e => by
      subst e
      have : (listed.setIfInBounds i' true).getD i' false = true := by simp [show i' < listed.size by rw [h.size]; exact hil]
      rw [this] at hnl'; cases hnl'
    have hVo := bit_old hV' e
    have hnl : listed.getD i' false = false := by
      cases hq : listed.getD i' false with
      | false => rfl
      | true => rw [listed_keep hq] at hnl'; cases hnl'
    obtain ⟨d', ri, k1, k2, k3, k4⟩ := h.rcd i' o' hi' ho' hVo hnl
    refine ⟨d', ri, k1, k2, ?_, by rw [hval i' hVo]; exact fun m'' F hle => by rw [List.append_assoc]; exact k4 m'' (B ++ F) (hm.trans hle)⟩
    intro t hlook u hget
    rcases k3 t hlook u hget with ⟨j, oj, hj, hoj, hdj, hv, e', he', hb', hon'⟩ | h2
    · have hjV : V.testBit j = true := by have := h.vclosed i' o' hi' ho' hVo e' he' hb'; rwa [hon'] at this
      exact .inl ⟨j, oj, hj, hoj, hdj, by rw [hval j hjV]; exact hv, e', he', hb', hon'⟩
    · exact .inr h2
  · intro j hj hjl
    by_cases e : j = i
    · subst e; exact bit_self V j
    · exact bit_keep (h.sub j hj (listed_set hjl e))
  · intro j hj hjl
    cases hq : (listed.setIfInBounds i true).getD j false with
    | false => rfl
    | true => have := listed_set hq (by omega); rw [h.tail j hj hjl] at this; cases this
  · intro j oj dj hj hjl hoj hdj
    by_cases e : j = i
    · subst e
      rw [ho] at hoj; cases hoj
      rw [hd] at hdj; cases hdj
      simp only [if_true]
      exact Array.getElem?_setIfInBounds_self_of_lt hdlt
    · have hjl' := listed_set hjl e
      have hne : d ≠ dj := fun e2 => by
        subst e2
        exact e (ok.dst j oj hj hoj _ hdj i o hi ho hd)
      rw [Array.getElem?_setIfInBounds_ne hne, hval j (h.sub j hj hjl')]
      exact h.done j oj dj hj hjl' hoj hdj
  · intro t u ht hno
    have hil' : (listed.setIfInBounds i true).getD i false = true := by simp [show i < listed.size by rw [h.size]; exact hil]
    have hne : d ≠ t := fun e => by subst e; exact hno i o hi hil' ho hd
    rw [Array.getElem?_setIfInBounds_ne hne]
    exact h.old t u ht (fun j oj hj hjl hoj => hno j oj hj (listed_keep hjl) hoj)
/-- one acts that has no answer -/
theorem DInv.actN (ok : DrawOk l g M) (h : DInv P ro n w0 l g M ds S r0 V r m val listed tmps) {i : Nat} {o : Oper} {m' : Mem} {B : SHeap} (hi : i < g) (ho : l[i]? = some o) (hV : V.testBit i = false)
    (hw : ∀ e ∈ o.after, bind1 e = true → listed.getD e.on false = true) (hd : o.dst = none) (hm : m.le m') :
    DInv P ro n w0 l g M ds (S ++ B) r0 (V ||| 1 <<< i) r m' val (listed.setIfInBounds i true) tmps := by
  have hil := (List.getElem?_eq_some_iff.1 ho).1
  have hr : readyV V o := fun e he hb => h.sub e.on (by have := ok.down i o ho e he hb; omega) (hw e he hb)
  refine ⟨?_, ?_, ?_, by simp [h.size], closed_set h.closed ho hw, ?_, ?_, h.tsize, ?_, ?_⟩
  · intro t u ht
    rcases h.env t u ht with ⟨j, oj, hj, hjV, hoj, hdj, hv⟩ | ⟨h0, hno⟩
    · exact .inl ⟨j, oj, hj, bit_keep hjV, hoj, hdj, hv⟩
    · refine .inr ⟨h0, fun j oj hj hjV hoj hdj => ?_⟩
      by_cases e : j = i
      · subst e
        rw [ho] at hoj; cases hoj
        rw [hd] at hdj; cases hdj
      · exact hno j oj hj (bit_old hjV e) hoj hdj
  · intro j oj hj hoj hjV e he hb
    by_cases e2 : j = i
    · subst e2
      rw [ho] at hoj; cases hoj
      exact bit_keep (hr e he hb)
    · exact bit_keep (h.vclosed j oj hj hoj (bit_old hjV e2) e he hb)
  · intro i' o' hi' ho' hV' hnl'
    have e : i' ≠ i := fun e => by
      subst e
      have : (listed.setIfInBounds i' true).getD i' false = true := by simp [show i' < listed.size by rw [h.size]; exact hil]
      rw [this] at hnl'; cases hnl'
    have hVo := bit_old hV' e
    have hnl : listed.getD i' false = false := by
      cases hq : listed.getD i' false with
      | false => rfl
      | true => rw [listed_keep hq] at hnl'; cases hnl'
    obtain ⟨d', ri, k1, k2, k3, k4⟩ := h.rcd i' o' hi' ho' hVo hnl
    exact ⟨d', ri, k1, k2, k3, fun m'' F hle => by rw [List.append_assoc]; exact k4 m'' (B ++ F) (hm.trans hle)⟩
  · intro j hj hjl
    by_cases e : j = i
    · subst e; exact bit_self V j
    · exact bit_keep (h.sub j hj (listed_set hjl e))
  · intro j hj hjl
    cases hq : (listed.setIfInBounds i true).getD j false with
    | false => rfl
    | true => have := listed_set hq (by omega); rw [h.tail j hj hjl] at this; cases this
  · intro j oj dj hj hjl hoj hdj
    by_cases e : j = i
    · subst e
      rw [ho] at hoj; cases hoj
      rw [hd] at hdj; cases hdj
    · exact h.done j oj dj hj (listed_set hjl e) hoj hdj
  · intro t u ht hno
    exact h.old t u ht (fun j oj hj hjl hoj => hno j oj hj (listed_keep hjl) hoj)
theorem we_any (ok : DrawOk l g M) {K : Env → Mem → SHeap → SHeap → Prop} (hK : ∀ r m S U, K r m S U → WL P ro n w0 l.toArray Q (l.drop g) r ds m (S ++ U)) :
    ∀ (fuel k : Nat) (V : Nat) (r : Env) (m : Mem) (S U : SHeap) (val : Nat → Value) (listed : Array Bool) (tmps : Array Value) (w : World),
      WE P ro n w0 l g ds K k V r m S U → DInv P ro n w0 l g M ds S r0 V r m val listed tmps → Sat w0 m (S ++ U) w →
      ((List.range l.length).filter fun i => !listed.getD i false).length ≤ fuel → wpAnyIn (FW ro) 0 P .any l.toArray Q fuel listed ⟨tmps, marks ds⟩ w := by
  -- where all is done
  have final : ∀ (fuel : Nat) (V : Nat) (r : Env) (m : Mem) (S U : SHeap) (val : Nat → Value) (listed : Array Bool) (tmps : Array Value) (w : World), K r m S U → DInv P ro n w0 l g M ds S r0 V r m val listed tmps → Sat w0 m (S ++ U) w →
      (∀ i, i < g → listed.getD i false = true) → (∀ i, i < g → V.testBit i = true) → ((List.range l.length).filter fun i => !listed.getD i false).length ≤ fuel → wpAnyIn (FW ro) 0 P .any l.toArray Q fuel listed ⟨tmps, marks ds⟩ w := by
    intro fuel V r m S U val listed tmps w hk hI hs hall hV hf
    refine tail_any ok fuel g listed _ _ hI.size (Nat.le_refl _) ok.le (fun i hi => ⟨fun h => ?_, hall i⟩) ?_ ?_
    · rcases Nat.lt_or_ge i g with hlt | hge
      · exact hlt
      · rw [hI.tail i hge hi] at h; cases h
    · have : (List.range l.length).filter (fun i => !listed.getD i false) = (List.range l.length).filter (fun i => decide (g ≤ i)) := by
        apply List.filter_congr
        intro i hi
        have hi' := List.mem_range.1 hi
        rcases Nat.lt_or_ge i g with hlt | hge
        · rw [hall i hlt]; simp; omega
        · rw [hI.tail i hge hi']; simp [hge]
      rw [this] at hf
      have hcnt : l.length - g ≤ ((List.range l.length).filter (fun i => decide (g ≤ i))).length := by
        have hsub : List.Sublist (List.range' g (l.length - g)) ((List.range l.length).filter (fun i => decide (g ≤ i))) := by
          obtain ⟨k, hk⟩ : ∃ k, l.length = g + k := ⟨l.length - g, by have := ok.le; omega⟩
          have e : List.range l.length = List.range' 0 g ++ List.range' g (l.length - g) := by
            rw [List.range_eq_range', hk, Nat.add_sub_cancel_left]
            have := @List.range'_append 0 g k 1
            simpa using this.symm
          rw [e, List.filter_append]
          refine List.Sublist.trans ?_ (List.sublist_append_right _ _)
          rw [List.filter_eq_self.2 (fun i hi => by have := List.mem_range'_1.1 hi; simp; omega)]
          exact List.Sublist.refl _
        have := hsub.length_le
        simpa using this
      omega
    · refine hK r m S U hk tmps w ⟨hI.tsize, fun t u ht => ?_⟩ hs
      rcases hI.env t u ht with ⟨j, o, hj, _, hoj, hdj, hv⟩ | ⟨h0, hno⟩
      · rw [hI.done j o t hj (hall j hj) hoj hdj, hv]
      · exact hI.old t u h0 (fun j o hj hjl hoj => hno j o hj (hV j hj) hoj)
  intro fuel
  induction fuel with
  | zero =>
    intro k
    induction k with
    | zero => intro V r m S U val listed tmps w h; exact h.elim
    | succ k ihk =>
      intro V r m S U val listed tmps w h hI hs hf
      have hall : ∀ i, i < l.length → listed.getD i false = true := by
        intro i hi
        cases hq : listed.getD i false with
        | true => rfl
        | false =>
          exfalso
          have : i ∈ (List.range l.length).filter fun i => !listed.getD i false := by simp only [List.mem_filter, List.mem_range]; exact ⟨hi, by rw [hq]; rfl⟩
          have h0 := List.eq_nil_of_length_eq_zero (Nat.le_zero.1 hf)
          rw [h0] at this; cases this
      have hV : ∀ i, i < g → V.testBit i = true := fun i hi => hI.sub i hi (hall i (by have := ok.le; omega))
      rcases h with ⟨_, hk⟩ | ⟨i, o, d, v, hi, _, hVi, _⟩ | ⟨⟨i, hi, hVi⟩, _⟩
      · exact final 0 V r m S U val listed tmps w hk hI hs (fun i hi => hall i (by have := ok.le; omega)) hV hf
      · rw [hV i hi] at hVi; cases hVi
      · rw [hV i hi] at hVi; cases hVi
  | succ fuel ihf =>
    intro k
    induction k with
    | zero => intro V r m S U val listed tmps w h; exact h.elim
    | succ k ihk =>
      intro V r m S U val listed tmps w h hI hs hf
      by_cases hcalm : ∃ i o d v, i < g ∧ l[i]? = some o ∧ V.testBit i = false ∧ readyV V o ∧ o.dst = some d ∧ (∀ c, o.op ≠ .defer c) ∧
          (∀ m' F, m.le m' → WL P ro n w0 l.toArray (Q1 w0 d v ds m' (S ++ F)) [o] (Env.sel (o.looksAt l.toArray) r) ds m' (S ++ F)) ∧ WE P ro n w0 l g ds K k (V ||| 1 <<< i) ((d, v) :: r) m S U
      · obtain ⟨i, o, d, v, hi, ho, hV, hr, hd, hnd, hwl, hwe⟩ := hcalm
        exact ihk _ _ m S U _ listed tmps w hwe (hI.calm ok hi ho hV hr hd hnd hwl) hs hf
      -- an operation that is calm already, or one that acts
      have hcount : ∀ i, i < l.length → listed.getD i false = false → ((List.range l.length).filter fun k => !(listed.setIfInBounds i true).getD k false).length ≤ fuel := fun i hi hnl => by
        have := count_set hI.size hi hnl; omega
      by_cases hfin : ∀ i, i < g → listed.getD i false = true
      · have hV : ∀ i, i < g → V.testBit i = true := fun i hi => hI.sub i hi (hfin i hi)
        rcases h with ⟨_, hk⟩ | h | ⟨⟨i, hi, hVi⟩, _⟩
        · exact final _ V r m S U val listed tmps w hk hI hs hfin hV hf
        · exact absurd h hcalm
        · rw [hV i hi] at hVi; cases hVi
      refine ⟨fun hr => absurd (fun i hi => nothing_ready ok hI.size hr i (by have := ok.le; omega)) hfin, fun i hir => ?_⟩
      obtain ⟨h1, o, h2, h3⟩ := ready_of hir
      have hil := (List.getElem?_eq_some_iff.1 h2).1
      have hig : i < g := by
        rcases Nat.lt_or_ge i g with hlt | hge
        · exact hlt
        · exfalso
          refine hfin (fun k hk => ?_)
          exact mask_listed ok hI.closed i o h2 h3 k (ok.all i hge hil k (by omega))
      have hnl : listed.getD i false = false := by
        have hsz := hI.size
        simp only [Array.getD_eq_getD_getElem?] at h1 ⊢
        rw [Array.getElem?_eq_getElem (by omega)] at h1 ⊢
        exact h1
      cases hVi : V.testBit i with
      | true =>
        refine hI.deferred ok hs hig h2 hVi hnl h3 (fun tmps' w' hI' hs' => ?_)
        exact ihf (k + 1) V r m S U val _ tmps' w' h hI' hs' (hcount i hil hnl)
      | false =>
        rcases h with ⟨hV, _⟩ | h | ⟨_, h⟩
        · rw [hV i hig] at hVi; cases hVi
        · exact absurd h hcalm
        · have hrV : readyV V o := fun e he hb => hI.sub e.on (by have := ok.down i o h2 e he hb; omega) (h3 e he hb)
          have henv : ∀ t u, (Env.sel (o.looksAt l.toArray) r).get t = some u → tmps[t]? = some u := by
            intro t u ht
            obtain ⟨hlook, hget⟩ := Env.sel_get ht
            rcases hI.env t u hget with ⟨j, oj, hj, hjV, hoj, hdj, hv⟩ | ⟨h0, hno⟩
            · rcases ok.reads i o hig h2 t hlook j oj hj hoj hdj with ⟨_, e, he, hb, hon⟩ | ⟨_, hbit⟩
              · have := h3 e he hb
                rw [hon] at this
                rw [hI.done j oj t hj this hoj hdj, hv]
              · have := hI.vmask ok hj hoj (hI.vclosed j oj hj hoj hjV) hbit
                rw [hVi] at this; cases this
            · exact hI.old t u h0 (fun j oj hj hjl hoj => hno j oj hj (hI.sub j hj hjl) hoj)
          rcases h i o hig h2 hVi hrV with ⟨d, hd, hnd, hwl⟩ | ⟨hd, hnd, hwl⟩
          · refine wpOp_of_post (by simpa using h2) hd hnd ?_ ?_ (hwl tmps w ⟨hI.tsize, henv⟩ hs) ?_
            · rintro a w ⟨v, m', B, U', _, hdf, _⟩; exact hdf
            · intro e a w hq
              cases e <;> first | rfl | exact hq.elim
            · rintro v0 w' ⟨v, m', B, U', hv, _, hm, hs', hwe⟩
              have hdlt : d < tmps.size := by
                rcases Nat.lt_or_ge d tmps.size with hlt | hge
                · exact hlt
                · simp only at hv
                  rw [Array.getElem?_eq_none (by simpa using hge)] at hv; cases hv
              have hv0 : v0 = v := by
                simp only at hv
                rw [Array.getElem?_setIfInBounds_self_of_lt hdlt] at hv
                exact Option.some.inj hv
              subst hv0
              exact ihf k _ _ m' (S ++ B) U' _ _ _ w' hwe (hI.act ok hig h2 hVi h3 hd hm hdlt) hs' (hcount i hil hnl)
          · refine wpOp_of_postN (by simpa using h2) hd hnd ?_ ?_ (hwl tmps w ⟨hI.tsize, henv⟩ hs) ?_
            · rintro a w ⟨m', B, U', hdf, _⟩; exact hdf
            · intro e a w hq
              cases e <;> first | rfl | exact hq.elim
            · rintro w' ⟨m', B, U', _, hm, hs', hwe⟩
              exact ihf k _ _ m' (S ++ B) U' _ _ _ w' hwe (hI.actN ok hig h2 hVi h3 hd hm) hs' (hcount i hil hnl)
end sound
def readyB (V : Nat) (o : Oper) : Bool := o.after.all fun e => !bind1 e || V.testBit e.on
theorem readyB_iff {V : Nat} {o : Oper} : readyB V o = true ↔ readyV V o := by
  unfold readyB readyV
  rw [Array.all_eq_true']
  constructor
  · intro h e he hb
    have := h e he
    simpa [hb] using this
  · intro h e he
    cases hb : bind1 e with
    | false => simp
    | true => simp [h e he hb]
/-- no operation but these may come next -/
def onlyB (l : List Oper) (g V : Nat) (js : List Nat) : Bool :=
  ((List.range g).any fun i => !V.testBit i) && ((List.range g).all fun i => V.testBit i || js.contains i || match l[i]? with | some o => !readyB V o | none => true)
theorem onlyB_ok {l : List Oper} {g V : Nat} {js : List Nat} (h : onlyB l g V js = true) : (∃ i, i < g ∧ V.testBit i = false) ∧ ∀ i o, i < g → l[i]? = some o → V.testBit i = false → readyV V o → i ∈ js := by
  unfold onlyB at h
  rw [Bool.and_eq_true] at h
  constructor
  · obtain ⟨i, hi, hV⟩ := List.any_eq_true.1 h.1
    exact ⟨i, List.mem_range.1 hi, by simpa using hV⟩
  · intro i o hi ho hV hr
    have := List.all_eq_true.1 h.2 i (List.mem_range.2 hi)
    have hrb := readyB_iff.2 hr
    rw [ho, hV] at this
    simpa [hrb] using this
section build
variable {l : List Oper} {g : Nat} {S U : SHeap} {K : Env → Mem → SHeap → SHeap → Prop} {k V : Nat}
theorem WE.done (h : ((List.range g).all fun i => V.testBit i) = true) (hK : K r m S U) : WE P ro n w0 l g ds K (k + 1) V r m S U :=
  .inl ⟨fun i hi => List.all_eq_true.1 h i (List.mem_range.2 hi), hK⟩
theorem WE.calm (i : Nat) {o : Oper} {d : Nat} {v : Value} (hV : V.testBit i = false) (hi : Nat.blt i g = true) (ho : l[i]? = some o) (hr : readyB V o = true) (hd : o.dst = some d) (hnd : ∀ c, o.op ≠ .defer c)
    (hwl : ∀ m' F, m.le m' → WL P ro n w0 l.toArray (Q1 w0 d v ds m' (S ++ F)) [o] (Env.sel (o.looksAt l.toArray) r) ds m' (S ++ F))
    (h : WE P ro n w0 l g ds K k (V ||| 1 <<< i) ((d, v) :: r) m S U) : WE P ro n w0 l g ds K (k + 1) V r m S U :=
  .inr (.inl ⟨i, o, d, v, by simpa [Nat.blt_eq] using hi, ho, hV, readyB_iff.1 hr, hd, hnd, hwl, h⟩)
/-- what one that acts owes -/
def Acts (P : Program) (ro : Option Nat) (n : Nat) (w0 : World) (l : List Oper) (g : Nat) (ds : List Nat) (K : Env → Mem → SHeap → SHeap → Prop) (k V : Nat) (r : Env) (m : Mem) (S U : SHeap) (i : Nat) : Prop :=
  ∃ o d, l[i]? = some o ∧ o.dst = some d ∧ (∀ c, o.op ≠ .defer c) ∧
    WL P ro n w0 l.toArray (QE w0 d ds S m fun v m' S' U' => WE P ro n w0 l g ds K k (V ||| 1 <<< i) ((d, v) :: r) m' S' U') [o] (Env.sel (o.looksAt l.toArray) r) ds m (S ++ U)
theorem WE.acts (js : List Nat) (h : onlyB l g V js = true) (hj : ∀ i ∈ js, Acts P ro n w0 l g ds K k V r m S U i) : WE P ro n w0 l g ds K (k + 1) V r m S U := by
  obtain ⟨h1, h2⟩ := onlyB_ok h
  refine .inr (.inr ⟨h1, fun i o hi ho hV hr => ?_⟩)
  obtain ⟨o', d, ho', hd, hnd, hwl⟩ := hj i (h2 i o hi ho hV hr)
  rw [ho] at ho'; cases ho'
  exact .inl ⟨d, hd, hnd, hwl⟩
/-- a store comes next -/
theorem WE.act0 (i : Nat) {o : Oper} (h : onlyB l g V [i] = true) (ho : l[i]? = some o) (hd : o.dst = none) (hnd : ∀ c, o.op ≠ .defer c)
    (hwl : WL P ro n w0 l.toArray (QN w0 ds S m fun m' S' U' => WE P ro n w0 l g ds K k (V ||| 1 <<< i) r m' S' U') [o] (Env.sel (o.looksAt l.toArray) r) ds m (S ++ U)) : WE P ro n w0 l g ds K (k + 1) V r m S U := by
  obtain ⟨h1, h2⟩ := onlyB_ok h
  refine .inr (.inr ⟨h1, fun i' o' hi ho' hV hr => ?_⟩)
  have := h2 i' o' hi ho' hV hr
  rw [List.mem_singleton] at this
  subst this
  rw [ho] at ho'; cases ho'
  exact .inr ⟨hd, hnd, hwl⟩
theorem WE.act1 (i : Nat) {o : Oper} {d : Nat} (h : onlyB l g V [i] = true) (ho : l[i]? = some o) (hd : o.dst = some d) (hnd : ∀ c, o.op ≠ .defer c)
    (hwl : WL P ro n w0 l.toArray (QE w0 d ds S m fun v m' S' U' => WE P ro n w0 l g ds K k (V ||| 1 <<< i) ((d, v) :: r) m' S' U') [o] (Env.sel (o.looksAt l.toArray) r) ds m (S ++ U)) : WE P ro n w0 l g ds K (k + 1) V r m S U :=
  .acts [i] h (fun j hj => by rw [List.mem_singleton] at hj; subst hj; exact ⟨o, d, ho, hd, hnd, hwl⟩)
end build
/-- a region that draws its order, where some operations act -/
theorem WC.drawE {id : Nat} {l : List Oper} (g : Nat) (S U : SHeap) (hm : P.follows .mixedOrders = true) (hc : drawC l g = true) (hS : ∀ w, Sat w0 m H w → Sat w0 m (S ++ U) w)
    (h : WE P ro n w0 l g ds (fun r' m' S' U' => WL P ro n w0 l.toArray Q (l.drop g) r' ds m' (S' ++ U')) 200 0 r m S U) : WC P ro n w0 (.region id l.toArray true) Q r ds m H := by
  intro tmps w ho hs
  have ok := drawC_ok hc
  refine wpIn_region_draw fun t => ?_
  simp only [Region.schedule, hm, Bool.true_or, if_true]
  refine wpAnyIn_sound _ _ _ _ _ ?_
  have hz : ∀ k, (Array.replicate l.length false).getD k false = false := by
    intro k
    simp only [Array.getD_eq_getD_getElem?]
    by_cases hk : k < l.length
    · simp [hk]
    · rw [Array.getElem?_eq_none (by simpa using hk)]; rfl
  have hsz : l.toArray.size = l.length := by simp
  rw [hsz]
  refine we_any (r0 := r) ok (fun _ _ _ _ h => h) l.length 200 0 r m S U (fun _ => undef) _ tmps _ h ?_ (hS _ hs.drew) ?_
  · refine ⟨fun t u ht => .inr ⟨ht, fun j o _ hj => ?_⟩, fun j o _ _ hj => ?_, fun i o _ _ hj => ?_, by simp, fun j o _ hj => ?_, fun j _ hj => ?_, fun j _ _ => hz j, ho.size, fun j o d _ hj => ?_, fun t u ht _ => ho.at_ t u ht⟩
    · simp at hj
    · simp at hj
    · simp at hj
    · rw [hz] at hj; cases hj
    · rw [hz] at hj; cases hj
    · rw [hz] at hj; cases hj
  · exact Nat.le_trans (List.length_filter_le _ _) (by simp)
end
end Go.Eng

/-
  A walk's engine: ways out of a block that meet again. No condition.
-/
set_option linter.all false
namespace Go.Eng
open Go Go.RowKit
section
variable {P : Program} {ro : Option Nat} {n : Nat} {w0 : World} {Q : Exit → Act → World → Prop} {r : Env} {ds : List Nat} {m : Mem} {H : SHeap}
def QJoinX (n : Nat) (w0 : World) (id : Nat) (I : Env → List Nat → Mem → SHeap → Prop) (Q : Exit → Act → World → Prop) : Exit → Act → World → Prop
  | .exit j, a, w => if j = id then ∃ r ds m H, I r ds m H ∧ r.ok n a.tmps ∧ a.defers = marks ds ∧ Sat w0 m H w else Q (.exit j) a w
  | e, a, w => Q e a w
attribute [irreducible] QJoinX
end
end Go.Eng

/-
  A walk's engine: all that is calm at once. No condition.
-/
set_option linter.all false
namespace Go.Eng
open Go Go.RowKit
section
variable {P : Program} {ro : Option Nat} {n : Nat} {w0 : World} {r : Env} {ds : List Nat} {m : Mem} {l : List Oper} {g : Nat} {S U : SHeap} {K : Env → Mem → SHeap → SHeap → Prop} {k V : Nat}
theorem wcal (i : Nat) {o : Oper} {d : Nat} {v : Value}
    (h : WE P ro n w0 l g ds K k (V ||| 1 <<< i) ((d, v) :: r) m S U) (hV : V.testBit i = false := by decide +kernel) (hi : Nat.blt i g = true := by exact rfl) (ho : l[i]? = some o := by exact rfl) (hr : readyB V o = true := by decide +kernel) (hd : o.dst = some d := by exact rfl) (hnd : ∀ c, o.op ≠ .defer c := by intro c h; cases h)
    (hwl : ∀ m' F, m.le m' → WL P ro n w0 l.toArray (Q1 w0 d v ds m' (S ++ F)) [o] (Env.sel (o.looksAt l.toArray) r) ds m' (S ++ F)) : WE P ro n w0 l g ds K (k + 1) V r m S U :=
  WE.calm i hV hi ho hr hd hnd hwl h
end
end Go.Eng

/-
  A walk's engine: calls of function values that bear what they have caught. No condition.
-/
set_option linter.all false
namespace Go.Eng
open Go Go.RowKit
section
variable {P : Program} {ro : Option Nat} {n : Nat} {w0 : World} {Q : Exit → Act → World → Prop} {r : Env} {ds : List Nat} {m : Mem} {H : SHeap} {ops : Array Oper} {l : List Oper} {d : Nat} {ty : TypeId} {pos : String} {after : Array Edge}
theorem WL.callV {f : FuncId} {fn : Func} {c : Code} {x : Operand} {args : List Operand} {vs cs : List Value} {ts : Array TypeId} {Post : Value → Mem → SHeap → Prop}
    (hx : r.ev x = some (.func (.func f) #[] cs.toArray)) (hf : P.funcs[f]? = some fn) (hname : (fn.name == "runtime.NumGoroutine") = false) (hb : fn.body = some c)
    (hv : r.evs args = some vs) (hd : Nat.blt d n = true) (hs : Does P f (vs ++ cs).toArray w0 m H Post) (h : ∀ v m' H', Post v m' H' → WL P ro n w0 ops Q l ((d, v) :: r) ds m' H') :
    WL P ro n w0 ops Q (⟨some d, .call ⟨.value x, args.toArray, ts⟩, ty, pos, after, none⟩ :: l) r ds m H := by
  refine .enter (fun d' e => by cases e; simpa [Nat.blt_eq] using hd) (fun _ h => by cases h) (fun tmps w ho _ => ?_) hs h
  have e1 := ho.evs (marks ds) hv
  have e2 := ho.ev (ds := marks ds) hx
  have h1 : fn.name ≠ "runtime.NumGoroutine" := by simpa using hname
  have h2 : ∀ a : Array Value, (callFunc f a).run P w = .ok (.enter f a) w := fun a => by simp [callFunc, hf, h1, hb]
  simp only [execOp, resolve, Sem.run_bind, List.map_toArray, e1]
  simp [e2, Deferred.ofValue, invoke, h2, Result.andThen]
end
end Go.Eng

/-
  A walk's engine: values in interfaces: calls of their methods, type assertions. No condition.
-/
set_option linter.all false
namespace Go.Eng
open Go Go.RowKit
section
variable {P : Program} {ro : Option Nat} {n : Nat} {w0 : World} {Q : Exit → Act → World → Prop} {r : Env} {ds : List Nat} {m : Mem} {H : SHeap} {ops : Array Oper} {l : List Oper} {d : Nat} {ty : TypeId} {pos : String} {after : Array Edge}
/-- the function behind a type's method that is its own, and whether its receiver is a pointer -/
def ownMethod (P : Program) (t : TypeId) (name : String) : Option (FuncId × Bool) :=
  (P.info? t).bind fun i => (i.methods.find? (·.name == name)).bind fun mt => if mt.path.isEmpty then mt.func else none
def ownRecv (P : Program) (t : TypeId) (pr : Bool) : Bool :=
  match P.underlying t, pr with
  | some (.pointer _), true => true
  | some (.pointer _), false => false
  | some _, false => true
  | _, _ => false
def notIface (P : Program) (t : TypeId) : Bool := (P.underlying t).any (fun d => match d with | .interface _ => false | _ => true)
end
end Go.Eng

/-
  A walk's engine: values in interfaces held against nil; values that may be called: a loop's yield, or a closure. No condition.
-/
set_option linter.all false
namespace Go.Eng
open Go Go.RowKit
section
variable {P : Program} {ro : Option Nat} {n : Nat} {w0 : World} {Q : Exit → Act → World → Prop} {r : Env} {ds : List Nat} {m : Mem} {H : SHeap} {ops : Array Oper} {l : List Oper} {d : Nat} {ty : TypeId} {pos : String} {after : Array Edge}
theorem WQ.persist {e : Exit} {b : Nat} {o : Obj} {H1 : SHeap} (ho : Out (.blk b o) H H1) (h : ∀ m', m.le m' → m' b = some o → WQ n w0 Q e r ds m' H1) : WQ n w0 Q e r ds m H :=
  fun tmps w hok hs => by
    obtain ⟨h1, h2⟩ := (hs.perm ho.perm).persist
    exact h _ h2 (by simp [Mem.ins]) tmps w hok h1
end
/-- a value that may be called in such a state: it hands back true, or false -/
def FnOK (P : Program) (w0 : World) (fv : Value) (vs : List Value) (m : Mem) (H : SHeap) (Jt Jf : Mem → SHeap → Prop) : Prop :=
  ∀ ⦃ro : Option Nat⦄ ⦃n : Nat⦄ ⦃Q : Exit → Act → World → Prop⦄ ⦃r : Env⦄ ⦃ds : List Nat⦄ ⦃ops : Array Oper⦄ ⦃l : List Oper⦄ ⦃d : Nat⦄ ⦃ty : TypeId⦄ ⦃pos : String⦄ ⦃after : Array Edge⦄ ⦃f : Operand⦄ ⦃args : List Operand⦄ ⦃ts : Array TypeId⦄,
    r.ev f = some fv → r.evs args = some vs → Nat.blt d n = true →
    (∀ m' H', Jt m' H' → WL P ro n w0 ops Q l ((d, .bool true) :: r) ds m' H') → (∀ m' H', Jf m' H' → WL P ro n w0 ops Q l ((d, .bool false) :: r) ds m' H') →
    WL P ro n w0 ops Q (⟨some d, .call ⟨.value f, args.toArray, ts⟩, ty, pos, after, none⟩ :: l) r ds m H
theorem FnOK.yield {P : Program} {w0 : World} {lp : Nat} {vs : List Value} {m : Mem} {H : SHeap} {Jt Jf : Mem → SHeap → Prop} (h : YieldOK P w0 lp vs.toArray m H Jt Jf) : FnOK P w0 (.func (.yield lp) #[] #[]) vs m H Jt Jf :=
  fun ro n Q r ds ops l d ty pos after f args ts hf hv hd ht hn => WL.yield hf hv hd h ht hn
end Go.Eng

/-
  A walk's engine: what package strings' Builder does beneath: pointers as package strings turns them, a library function that is told from outside, a row's bytes as a text. No condition.
-/
set_option linter.all false
namespace Go.Eng
open Go Go.RowKit
section
variable {P : Program} {ro : Option Nat} {n : Nat} {w0 : World} {Q : Exit → Act → World → Prop} {r : Env} {ds : List Nat} {m : Mem} {H : SHeap} {ops : Array Oper} {l : List Oper} {d : Nat} {ty : TypeId} {pos : String} {after : Array Edge}
def sizedB (P : Program) (t : TypeId) : Bool := (P.info? t).any fun j => j.size != 0
theorem sizedB_ok {t : TypeId} (h : sizedB P t = true) : ∃ j, P.info? t = some j ∧ j.size ≠ 0 := by
  unfold sizedB at h
  cases hi : P.info? t with
  | none => simp [hi] at h
  | some j => simp [hi] at h; exact ⟨j, rfl, h⟩
theorem shape_blk {b : Nat} {L : List Value} {T : TypeId} {fz : Nat × Nat} {w : World} (hm : Item.blk b (.cells L.toArray T fz) ∈ H) (hs : Sat w0 m H w) : w.shape? b = some (T, L.length) := by
  have h : w.heap[b]? = some (.cells L.toArray T fz) := hs.own _ hm
  simp [World.shape?, h]
theorem WL.toUnsafe {src dst t T : TypeId} {x : Operand} {b : Nat} {L : List Value} {fz : Nat × Nat} (hx : r.ev x = some (.pointer (some ⟨b, 0, none⟩))) (hm : Item.blk b (.cells L.toArray T fz) ∈ H) (hL : 0 < L.length)
    (hs : P.underlying src = some (.pointer t)) (hu : P.underlying dst = some .unsafePointer) (ht : sizedB P t = true) (hd : Nat.blt d n = true)
    (h : WL P ro n w0 ops Q l ((d, .pointer (some ⟨b, 0, none⟩)) :: r) ds m H) : WL P ro n w0 ops Q (⟨some d, .convert src dst x, ty, pos, after, none⟩ :: l) r ds m H :=
  .val hd (fun _ h => by cases h) (fun tmps w ho hsat => by
    obtain ⟨j, hj, hj0⟩ := sizedB_ok ht
    have := Lib.run_to_unsafe (P := P) w ⟨b, 0, none⟩ hs hu hj hj0 (shape_blk hm hsat) hL
    simp [execOp, ho.ev hx, this]) h
theorem WL.fromUnsafe {src dst t T : TypeId} {x : Operand} {b : Nat} {L : List Value} {fz : Nat × Nat} (hx : r.ev x = some (.pointer (some ⟨b, 0, none⟩))) (hm : Item.blk b (.cells L.toArray T fz) ∈ H) 
    (hs : P.underlying src = some .unsafePointer) (hu : P.underlying dst = some (.pointer t)) (ht : sizedB P t = true) (hl : liesAt P P.depth T (L.length / P.cellsOf T) 0 t 1 = true) (hd : Nat.blt d n = true)
    (h : WL P ro n w0 ops Q l ((d, .pointer (some ⟨b, 0, none⟩)) :: r) ds m H) : WL P ro n w0 ops Q (⟨some d, .convert src dst x, ty, pos, after, none⟩ :: l) r ds m H :=
  .val hd (fun _ h => by cases h) (fun tmps w ho hsat => by
    obtain ⟨j, hj, hj0⟩ := sizedB_ok ht
    have := Lib.run_from_unsafe (P := P) w ⟨b, 0, none⟩ hs hu hj (shape_blk hm hsat) hl
    simp [execOp, ho.ev hx, this]) h
theorem WL.extern {f : FuncId} {fn : Func} {e : Array Value → Sem Value} {args : List Operand} {vs : List Value} {ts : Array TypeId} {v : Value} (hf : P.funcs[f]? = some fn) (hname : (fn.name == "runtime.NumGoroutine") = false) (hb : fn.body.isNone = true)
    (hn : Extern.findNext fn = none) (he : Extern.find fn = some e) (hv : r.evs args = some vs) (hrun : ∀ w, (e vs.toArray).run P w = .ok v w) (hd : Nat.blt d n = true)
    (h : WL P ro n w0 ops Q l ((d, v) :: r) ds m H) : WL P ro n w0 ops Q (⟨some d, .call ⟨.value (.func f), args.toArray, ts⟩, ty, pos, after, none⟩ :: l) r ds m H :=
  .val hd (fun _ h => by cases h) (fun tmps w ho _ => by
    have e1 := ho.evs (marks ds) hv
    have h2 := run_callFunc_extern hf hname hb hn he vs.toArray w
    rw [hrun] at h2
    simp only [execOp, resolve, Sem.run_bind, List.map_toArray, e1]
    simp [Act.eval, Deferred.ofValue, Go.invoke, h2, Result.andThen]) h
theorem WL.neqSameP {t t' e : TypeId} {x y : Operand} {a : Addr} {j : TypeInfo} (hx : r.ev x = some (.pointer (some a))) (hy : r.ev y = some (.pointer (some a))) (hu : P.underlying t = some (.pointer e)) (hi : P.info? e = some j) (hd : Nat.blt d n = true)
    (h : WL P ro n w0 ops Q l ((d, .bool false) :: r) ds m H) : WL P ro n w0 ops Q (⟨some d, .binOp .neq t x y t', ty, pos, after, none⟩ :: l) r ds m H :=
  .val hd (fun _ h => by cases h) (fun tmps w ho _ => by
    have h1 := Lib.run_neq_ptr_same (P := P) w a hu hi
    have h2 : eqGuard .neq t x y (.pointer (some a)) (.pointer (some a)) = pure () := rfl
    simp [execOp, ho.ev hx, ho.ev hy, h2, h1]) h
theorem WL.sliceData {x : Operand} {a : Option Addr} {len cap : Nat} {ts : Array TypeId} (hx : r.ev x = some (.slice a len cap)) (hc : a = none ∨ 0 < cap) (hd : Nat.blt d n = true)
    (h : WL P ro n w0 ops Q l ((d, .pointer a) :: r) ds m H) : WL P ro n w0 ops Q (⟨some d, .call ⟨.builtin .unsafeSliceData, #[x], ts⟩, ty, pos, after, none⟩ :: l) r ds m H :=
  .val hd (fun _ h => by cases h) (fun tmps w ho _ => by
    have h1 : (Builtin.unsafeSliceData_ ts ty #[.slice a len cap]).run P w = .ok (.pointer a) w := by
      cases a with
      | none => rfl
      | some a =>
        have h0 : cap ≠ 0 := by
          rcases hc with h | h
          · cases h
          · omega
        exact Lib.run_unsafeSliceData_row w _ _ _ _ _ h0
    simp only [execOp, resolve, Go.invoke, Go.builtin, Sem.run_bind, Sem.run_pure, Result.andThen_ok, List.map_toArray, List.map_cons, List.map_nil, ho.ev hx]
    simp [h1]) h
def isSD : Op → Bool
  | .call ⟨.builtin .unsafeSliceData, _, _⟩ => true
  | _ => false
theorem iSD {dst : Option Nat} {op : Op} (_hk : isSD op = true) (h : WL P ro n w0 ops Q (⟨dst, op, ty, pos, after, none⟩ :: l) r ds m H) : WL P ro n w0 ops Q (⟨dst, op, ty, pos, after, none⟩ :: l) r ds m H := h
/-- a byte row's items -/
def bCs (s : List UInt8) : List (List Value) := s.map fun b => [Value.int .u8 (b.toNat : Int)]
theorem bCs_length (s : List UInt8) : (bCs s).length = s.length := by simp [bCs]
/-- a row's bytes as a text: the row is let go -/
theorem WL.strRow {pt it e : TypeId} {x y : Operand} {a : Option Addr} {cap : Nat} {s : List UInt8} {H1 : SHeap} (hx : r.ev x = some (.pointer a)) (hy : r.ev y = some (.int .i64 (s.length : Int))) (ho : Out (.row a cap e 1 (bCs s)) H H1)
    (hp : P.underlying pt = some (.pointer e)) (hc : Nat.beq (P.cellsOf e) 1 = true) (hl : s.length ≤ 9223372036854775807) (hd : Nat.blt d n = true)
    (h : WL P ro n w0 ops Q l ((d, str s) :: r) ds m H1) : WL P ro n w0 ops Q (⟨some d, .call ⟨.builtin .unsafeString, #[x, y], #[pt, it]⟩, ty, pos, after, none⟩ :: l) r ds m H := by
  refine .gen (fun v' m' H' => v' = str s ∧ m' = m ∧ H' = H1) hd (fun _ h => by cases h) (fun tmps w hok hs => ?_) (by rintro _ _ _ ⟨rfl, rfl, rfl⟩; exact h)
  have hs1 := hs.perm ho.perm
  by_cases h0 : s = []
  · subst h0
    refine ⟨str [], m, H1, w, ?_, hs1.drop, rfl, rfl, rfl⟩
    have h1 := Lib.run_unsafeString_none (P := P) w pt it ty a
    simp only [execOp, resolve, Go.invoke, Go.builtin, Sem.run_bind, Sem.run_pure, Result.andThen_ok, List.map_toArray, List.map_cons, List.map_nil, hok.ev hx, hok.ev hy]
    simp only [List.length_nil] at h1 ⊢
    simp [h1]
    rfl
  · have hpos : 0 < s.length := List.length_pos_iff.2 h0
    obtain ⟨a0, rfl⟩ := row_some hs1 List.mem_cons_self (by rw [bCs_length]; exact hpos)
    obtain ⟨arr, fz, h1, h2, h3, h4, h5, h6, h7, h8⟩ := hs1.own _ List.mem_cons_self
    have hcells := row_cells (w0 := w0) (m := m) (H := .row (some a0) cap e 1 (bCs s) :: H1) (a := a0) (cap := cap) (T := e) (s := s) List.mem_cons_self w hs1
    rw [bCs_length] at h4
    have hus := Lib.run_unsafeString_row (P := P) w pt it ty e hp (Nat.eq_of_beq_eq_true hc) a0.block arr.size (by simp [World.shape?, h2]) s h0 (by rw [h3]; omega) hl (by
      intro j x hx
      have := hcells j (.int .u8 x.toNat) (by simp [hx])
      rw [h1] at this
      exact this)
    rw [← h1] at hus
    have hblk := (Array.getElem?_eq_some_iff.1 h2).1
    have hz : (w.freeze a0 s.length).heap.size = w.heap.size := by unfold World.freeze; split <;> simp
    have hoth : ∀ b, b ≠ a0.block → (w.freeze a0 s.length).heap[b]? = w.heap[b]? := by
      intro b hb
      unfold World.freeze
      split
      · rfl
      · simp only [Array.getElem?_modify]
        rw [if_neg (fun h => hb h.symm)]
    obtain ⟨o, ho'⟩ : ∃ o, (w.freeze a0 s.length).heap[a0.block]? = some o := ⟨_, Array.getElem?_eq_getElem (by rw [hz]; exact hblk)⟩
    have hos : (w.freeze a0 s.length).os = w.os := by unfold World.freeze; split <;> rfl
    have hot : (w.freeze a0 s.length).tape = w.tape := by unfold World.freeze; split <;> rfl
    have hoo : (w.freeze a0 s.length).output = w.output := by unfold World.freeze; split <;> rfl
    have hs2 := hs1.turn (j := .blk a0.block o) hos hot hoo (Nat.le_of_eq hz.symm) (fun b _ hb => hoth b (by simpa [Item.foot] using hb)) ho' (fun b hb => .inl (by simpa [Item.foot] using hb)) (by simp [Item.foot])
    refine ⟨str s, m, H1, w.freeze a0 s.length, ?_, hs2.drop, rfl, rfl, rfl⟩
    simp only [execOp, resolve, Go.invoke, Go.builtin, Sem.run_bind, Sem.run_pure, Result.andThen_ok, List.map_toArray, List.map_cons, List.map_nil, hok.ev hx, hok.ev hy]
    simp [hus]
end
end Go.Eng

/-
  A walk's engine: iterators that may let memory grow between their calls of yield: what a loop over them keeps must hold in memory that has grown. No condition.
-/
set_option linter.all false
namespace Go.Eng
open Go Go.RowKit
/-- an iterator whose own memory may grow: it hands over xs, one after the other, as long as it is told to go on -/
def SeqM {α : Type} (P : Program) (gf : FuncId) (lb : List Value) (encs : α → List Value) (xs : List α) (Cap : Mem → Prop) : Prop :=
  ∀ (w0 : World) (l : Nat) (J Jx : List α → Mem → SHeap → Prop) (m : Mem) (H : SHeap), (∀ pre m m' H, J pre m H → m.le m' → J pre m' H) → (∀ pre m m' H, Jx pre m H → m.le m' → Jx pre m' H) → Cap m → J [] m H →
    (∀ pre x post, xs = pre ++ x :: post → ∀ m1 H1 Hit, J pre m1 H1 → m.le m1 →
      YieldOK P w0 l (encs x).toArray m1 (Hit ++ H1) (fun m' H' => ∃ H2, H' = Hit ++ H2 ∧ J (pre ++ [x]) m' H2 ∧ m1.le m') (fun m' H' => ∃ H2, H' = Hit ++ H2 ∧ Jx (pre ++ [x]) m' H2 ∧ m1.le m')) →
    Does P gf (.func (.yield l) #[] #[] :: lb).toArray w0 m H (fun _ m' H' => m.le m' ∧ (J xs m' H' ∨ ∃ pre, pre <+: xs ∧ Jx pre m' H'))
theorem SeqC.m {α : Type} {P : Program} {gf : FuncId} {lb : List Value} {encs : α → List Value} {xs : List α} {Cap : Mem → Prop} (h : SeqC P gf lb encs xs Cap) : SeqM P gf lb encs xs Cap :=
  fun w0 l J Jx m H _ _ hc h0 hy => h w0 l J Jx m H hc h0 hy
section
variable {P : Program} {ro : Option Nat} {n : Nat} {w0 : World} {Q : Exit → Act → World → Prop} {r : Env} {ds : List Nat} {m : Mem} {H : SHeap}
  {ops : Array Oper} {l : List Oper} {d : Nat} {ty : TypeId} {pos : String} {after : Array Edge}
theorem range_coreM {α : Type} {gf : FuncId} {lb : List Value} {encs : α → List Value} {xs : List α} {Cap : Mem → Prop} {ps : List Nat} {assign body : Code} {fnd : FuncId} {tmps : Array Value} {L D : Nat} {Hb : SHeap}
    (hseq : SeqM P gf lb encs xs Cap) (hcap : Cap m) (hps : ∀ x, (encs x).length = ps.length) (hpn : ∀ p ∈ ps, p < n) (hok : r.ok n tmps)
    (J : List α → Mem → SHeap → Prop) (Jx : Code → List α → Mem → SHeap → Prop) (hmJ : ∀ pre m m' Hl, J pre m Hl → m.le m' → J pre m' Hl) (hmX : ∀ c pre m m' Hl, Jx c pre m Hl → m.le m' → Jx c pre m' Hl) {Hl0 : SHeap} (h0 : J [] m Hl0)
    (hround : ∀ lp pre x post, xs = pre ++ x :: post → ∀ m1 Hl, J pre m1 Hl → m.le m1 → ∀ Hfr, (∃ rec, Item.blk lp (.loop rec) ∈ Hfr ∧ rec.defers = D) → WC P (some lp) n w0 assign (QAssign P n w0 lp body J Jx (pre ++ [x]) m1 Hfr) (Env.given ps (encs x) r) [] m1 (Hl ++ Hfr))
    {w : World} (hs : Sat w0 m (.blk L (.loop { state := .ready, pending := none, fn := fnd, tmps := tmps, params := ps.toArray, assign := assign, body := body, defers := D }) :: (Hl0 ++ Hb)) w) :
    CallsIn (FW none) 0 P gf (.func (.yield L) #[] #[] :: lb).toArray w fun e w' => ∃ v m', e = .returned v ∧ m.le m' ∧
      ((∃ Hl, J xs m' Hl ∧ Sat w0 m' (.blk L (.loop { state := .ready, pending := none, fn := fnd, tmps := tmps, params := ps.toArray, assign := assign, body := body, defers := D }) :: (Hl ++ Hb)) w') ∨
       (∃ c pre Hl, pre <+: xs ∧ Jx c pre m' Hl ∧ Sat w0 m' (.blk L (.loop { state := .done, pending := some c, fn := fnd, tmps := tmps, params := ps.toArray, assign := assign, body := body, defers := D }) :: (Hl ++ Hb)) w')) := by
  obtain ⟨rec, hrec⟩ : ∃ rec : LoopState → Option Code → Loop, rec = fun st pe => { state := st, pending := pe, fn := fnd, tmps := tmps, params := ps.toArray, assign := assign, body := body, defers := D } := ⟨_, rfl⟩
  have hs1 : Sat w0 m (.blk L (.loop (rec .ready none)) :: (Hl0 ++ Hb)) w := by rw [hrec]; exact hs
  have := hseq w0 L (fun pre m H => ∃ Hl, H = .blk L (.loop (rec .ready none)) :: (Hl ++ Hb) ∧ J pre m Hl)
    (fun pre m H => ∃ c Hl, H = .blk L (.loop (rec .done (some c))) :: (Hl ++ Hb) ∧ Jx c pre m Hl) m _ (fun _ _ _ _ ⟨Hl, e, h⟩ hm => ⟨Hl, e, hmJ _ _ _ _ h hm⟩) (fun _ _ _ _ ⟨c, Hl, e, h⟩ hm => ⟨c, Hl, e, hmX _ _ _ _ _ h hm⟩) hcap ⟨Hl0, rfl, h0⟩ ?_ w hs1
  · refine this.mono ?_
    rintro e w' ⟨v, m', H', rfl, ⟨hle, hP⟩, hs'⟩
    refine ⟨v, m', rfl, hle, ?_⟩
    rcases hP with ⟨Hl, rfl, hJ⟩ | ⟨pre, hpre, c, Hl, rfl, hJ⟩
    · exact .inl ⟨Hl, hJ, by rw [hrec] at hs'; exact hs'⟩
    · exact .inr ⟨c, pre, Hl, hpre, hJ, by rw [hrec] at hs'; exact hs'⟩
  · rintro pre x post hx m1 H1 Hit ⟨Hl, rfl, hJ⟩ hle W hW
    have hL : W.heap[L]? = some (.loop (rec .ready none)) := hW.own (.blk L _) (by simp)
    have hy := run_yield (P := P) (args := (encs x).toArray) hL (by rw [hrec]; simp [hps x])
    refine ⟨fnd, (ps.zip (encs x)).foldl (fun t (p : Nat × Value) => t.setIfInBounds p.1 p.2) tmps, assign, body, ?_, roundIn_of_wpIn (FW_fn none fnd) ?_⟩
    · rw [hy, hrec]
      congr 2
      simp
    · have hsat1 := hW.perm (perm_round Hit (.blk L (.loop (rec .ready none))) Hl Hb)
      have hr := hround L pre x post hx m1 Hl hJ hle (.blk L (.loop (rec .ready none)) :: (Hb ++ Hit)) ⟨_, List.mem_cons_self, by rw [hrec]⟩ _ W (hok.given ps (encs x) hpn) hsat1
      refine wpIn_mono hr ?_
      intro e a1 W1 hq
      cases e with
      | normal =>
        obtain ⟨r1, m2, Hl1, hok1, hdf, hs2, hle2, hbody⟩ := hq
        have hs2' := hs2.perm (List.perm_middle (a := Item.blk L (.loop (rec .ready none))) (l₁ := Hl1) (l₂ := Hb ++ Hit))
        have hL1 : W1.heap[L]? = some (.loop (rec .ready none)) := hs2'.own _ List.mem_cons_self
        refine ⟨_, run_beginRound hL1 (by rw [hrec]), ?_⟩
        have hs3 := (hs2'.putObj (o' := .loop { rec .ready none with state := .busy })).perm (List.perm_middle (a := Item.blk L (.loop { rec .ready none with state := .busy })) (l₁ := Hl1) (l₂ := Hb ++ Hit)).symm
        obtain ⟨tm1, df1⟩ := a1
        simp only at hdf
        subst hdf
        refine wpIn_mono (hbody (.blk L (.loop { rec .ready none with state := .busy }) :: (Hb ++ Hit)) ⟨_, List.mem_cons_self⟩ tm1 _ hok1 hs3) ?_
        have fin : ∀ (jump : Option Code) (m3 : Mem) (Hl3 : SHeap) (W3 : World), Sat w0 m3 (Hl3 ++ (.blk L (.loop { rec .ready none with state := .busy }) :: (Hb ++ Hit))) W3 →
            ∃ w4, (Instr.endRound L jump).run P W3 = .ok (.bool jump.isNone) w4 ∧ Sat w0 m3 (Hit ++ (.blk L (.loop (rec (if jump.isNone then .ready else .done) jump)) :: (Hl3 ++ Hb))) w4 := by
          intro jump m3 Hl3 W3 hs4
          have hs5 := hs4.perm (List.perm_middle (a := Item.blk L (.loop { rec .ready none with state := .busy })) (l₁ := Hl3) (l₂ := Hb ++ Hit))
          have hL3 : W3.heap[L]? = some (.loop { rec .ready none with state := .busy }) := hs5.own _ List.mem_cons_self
          refine ⟨_, run_endRound jump hL3, ?_⟩
          have hs6 := hs5.putObj (o' := .loop { { rec .ready none with state := .busy } with state := if jump.isNone then .ready else .done, pending := jump })
          have e1 : ({ { rec .ready none with state := .busy } with state := if jump.isNone then .ready else .done, pending := jump } : Loop) = rec (if jump.isNone then .ready else .done) jump := by rw [hrec]
          rw [e1] at hs6
          rw [e1]
          exact hs6.perm ((List.perm_middle (a := Item.blk L (.loop (rec (if jump.isNone then .ready else .done) jump))) (l₁ := Hl3) (l₂ := Hb ++ Hit)).symm.trans (perm_round Hit _ Hl3 Hb).symm)
        intro e3 a3 W3 hq3
        cases e3 with
        | normal =>
          obtain ⟨m3, Hl3, hJ3, hle3, hs4⟩ := hq3
          obtain ⟨w4, h4, hs5⟩ := fin none m3 Hl3 W3 hs4
          exact ⟨_, w4, h4, .inl ⟨rfl, m3, _, ⟨_, rfl, ⟨Hl3, rfl, hJ3⟩, hle3⟩, hs5⟩⟩
        | ret =>
          obtain ⟨m3, Hl3, hJ3, hle3, hs4⟩ := hq3
          obtain ⟨w4, h4, hs5⟩ := fin (some .ret) m3 Hl3 W3 hs4
          exact ⟨_, w4, h4, .inr ⟨rfl, m3, _, ⟨_, rfl, ⟨.ret, Hl3, rfl, hJ3⟩, hle3⟩, hs5⟩⟩
        | exit id =>
          obtain ⟨m3, Hl3, hJ3, hle3, hs4⟩ := hq3
          obtain ⟨w4, h4, hs5⟩ := fin (some (.exit id)) m3 Hl3 W3 hs4
          exact ⟨_, w4, h4, .inr ⟨rfl, m3, _, ⟨_, rfl, ⟨.exit id, Hl3, rfl, hJ3⟩, hle3⟩, hs5⟩⟩
        | goto t =>
          obtain ⟨m3, Hl3, hJ3, hle3, hs4⟩ := hq3
          obtain ⟨w4, h4, hs5⟩ := fin (some (.goto t)) m3 Hl3 W3 hs4
          exact ⟨_, w4, h4, .inr ⟨rfl, m3, _, ⟨_, rfl, ⟨.goto t, Hl3, rfl, hJ3⟩, hle3⟩, hs5⟩⟩
        | panic ch => exact hq3.elim
        | outgrown => exact hq3.elim
      | _ => exact hq.elim
theorem WC.rangeFuncM {α : Type} {g : Operand} {gf : FuncId} {fn : Func} {cb : Code} {lb : List Value} {encs : α → List Value} {xs : List α} {Cap : Mem → Prop} {ps : List Nat} {assign body : Code} {Hl0 Hc : SHeap}
    (hg : r.ev g = some (.func (.func gf) #[] lb.toArray)) (hf : P.funcs[gf]? = some fn) (hname : (fn.name == "runtime.NumGoroutine") = false) (hb : fn.body = some cb)
    (hseq : SeqM P gf lb encs xs Cap) (hcap : Cap m) (hps : ∀ x, (encs x).length = ps.length) (hpn : ps.all (fun p => Nat.blt p n) = true)
    (J : List α → Mem → SHeap → Prop) (Jx : Code → List α → Mem → SHeap → Prop) (hmJ : ∀ pre m m' Hl, J pre m Hl → m.le m' → J pre m' Hl) (hmX : ∀ c pre m m' Hl, Jx c pre m Hl → m.le m' → Jx c pre m' Hl) (ht : Tail Hc H Hl0) (h0 : J [] m Hl0)
    (hround : ∀ lp pre x post, xs = pre ++ x :: post → ∀ m1 Hl, J pre m1 Hl → m.le m1 → ∀ Hfr, (∃ rec, Item.blk lp (.loop rec) ∈ Hfr) → WC P (some lp) n w0 assign (QAssign P n w0 lp body J Jx (pre ++ [x]) m1 Hfr) (Env.given ps (encs x) r) [] m1 (Hl ++ Hfr))
    (hdone : ∀ D m' Hl, J xs m' Hl → m.le m' → WQ n w0 Q .normal r (D :: ds) m' (Hl ++ (.blk D (.deferred (some [])) :: Hc)))
    (hstop : ∀ D c pre m' Hl, pre <+: xs → Jx c pre m' Hl → m.le m' → WC P none n w0 c Q r (D :: ds) m' (Hl ++ (.blk D (.deferred (some [])) :: Hc))) :
    WC P none n w0 (.rangeFunc g ps.toArray assign body) Q r ds m H := by
  intro tmps w ho hs
  rw [ht.eq] at hs
  have hpn' : ∀ p ∈ ps, p < n := fun p hp => by have := List.all_eq_true.1 hpn p hp; simpa [Nat.blt_eq] using this
  have h1 : fn.name ≠ "runtime.NumGoroutine" := by simpa using hname
  have h2 : ∀ (a : Array Value) (w : World), (callFunc gf a).run P w = .ok (.enter gf a) w := fun a w => by simp [callFunc, hf, h1, hb]
  refine wpIn_rangeFunc (fun fnd _ => ?_)
  have hs1 := (hs.alloc (.deferred (some []))).alloc (.loop { state := .ready, pending := none, fn := fnd, tmps := tmps, params := ps.toArray, assign := assign, body := body, defers := w.heap.size })
  rw [World.size_alloc] at hs1
  have hs2 := hs1.perm (List.Perm.cons _ (List.perm_middle (a := Item.blk w.heap.size (.deferred (some []))) (l₁ := Hl0) (l₂ := Hc)).symm)
  have hcall := range_coreM (P := P) hseq hcap hps hpn' ho J Jx hmJ hmX h0 (fun lp pre x post hx m1 Hl hJ hle Hfr ⟨rec, hr, _⟩ => hround lp pre x post hx m1 Hl hJ hle Hfr ⟨rec, hr⟩) hs2
  have henter := run_enterLoop_outer (P := P) (w := w) fnd tmps ps.toArray assign body
  generalize (w.alloc (.deferred (some []))).alloc (.loop { state := .ready, pending := none, fn := fnd, tmps := tmps, params := ps.toArray, assign := assign, body := body, defers := w.heap.size }) = W1 at henter hcall
  refine ⟨w.heap.size + 1, [{ target := .collected w.heap.size, args := #[] }], W1, { target := .fn (.func gf) lb.toArray, args := #[.func (.yield (w.heap.size + 1)) #[] #[]] }, W1, gf, (.func (.yield (w.heap.size + 1)) #[] #[] :: lb).toArray, W1,
    henter, ?_, fun f _ => FW_fn none f, ?_, FW_depth none, ?_⟩
  · have e0 : ∀ v, (Act.mk tmps (marks ds)).eval (.const v) = v := fun _ => rfl
    simp [resolve, ho.ev hg, e0, Deferred.ofValue]
  · simp [invoke, h2]
  · have hc : CallsIn (FW none) (0 - 1) P gf (.func (.yield (w.heap.size + 1)) #[] #[] :: lb).toArray _ _ := hcall
    refine hc.mono ?_
    rintro e w' ⟨v, m', rfl, hle, (⟨Hl, hJ, hs3⟩ | ⟨c, pre, Hl, hpre, hJ, hs3⟩)⟩
    · obtain ⟨w4, h4, hs4⟩ := end_loop (P := P) hs3 (by simp)
      exact ⟨none, w4, h4, hdone _ m' Hl hJ hle tmps w4 ho hs4⟩
    · obtain ⟨w4, h4, hs4⟩ := end_loop (P := P) hs3 (by simp)
      exact ⟨some c, w4, h4, hstop _ c pre m' Hl hpre hJ hle tmps w4 ho hs4⟩
end
end Go.Eng

/-
  A walk's engine: contracts that are told of worlds, as contracts of the engine. No condition.
-/
set_option linter.all false
namespace Go.Eng
open Go Go.RowKit
theorem Does.ofBelow {P : Program} {f : FuncId} {args : Array Value} {w0 : World} {m : Mem} {H : SHeap} {v : Value} (h : ∀ w, Sat w0 m H w → Calls P f args w fun e w' => e = .returned v ∧ Below w.heap.size w w') : Does P f args w0 m H (Gives v m H) :=
  fun w hs => (callsIn_wide.2 (h w hs)).mono fun _ _ ⟨he, hw⟩ => ⟨v, m, H, he, ⟨rfl, rfl, rfl⟩, hs.below_keep hw⟩
/-- a variable of the library's holds some number -/
def GInt (g : Nat) (m : Mem) : Prop := ∃ cs T fz z, m g = some (.cells cs T fz) ∧ cs[0]? = some (.int .i64 z)
theorem GInt.le {g : Nat} {m m' : Mem} (h : GInt g m) (hm : m.le m') : GInt g m' := by
  obtain ⟨cs, T, fz, z, h1, h2⟩ := h
  exact ⟨cs, T, fz, z, hm _ _ h1, h2⟩
theorem GInt.cell {g : Nat} {m : Mem} {w0 w : World} {H : SHeap} (h : GInt g m) (hs : Sat w0 m H w) : ∃ z, w.cell? ⟨g, 0, none⟩ = some (.int .i64 z) := by
  obtain ⟨cs, T, fz, z, h1, h2⟩ := h
  exact ⟨z, by simp [World.cell?, hs.pers _ _ h1, h2]⟩
end Go.Eng

/-
  A walk's engine: what a loop over a function keeps in front of a frame; leaving such a loop. No condition.
-/
set_option linter.all false
namespace Go.Eng
open Go Go.RowKit
theorem Tail.app {Hfr : SHeap} : ∀ {H : SHeap}, Tail Hfr (H ++ Hfr) H
  | [] => .nil
  | _ :: _ => .cons Tail.app
theorem Tail.all {H : SHeap} : Tail [] H H := by
  have := Tail.app (Hfr := []) (H := H)
  rwa [List.append_nil] at this
theorem drops_app {w0 w : World} {m : Mem} : ∀ {X H : SHeap}, Sat w0 m (X ++ H) w → Sat w0 m H w
  | [], _, h => h
  | _ :: _, _, h => drops_app (h.drop)
theorem perm_frame (X H1 F : SHeap) : List.Perm (X ++ (H1 ++ F)) ((X ++ F) ++ H1) := by
  rw [List.append_assoc]
  exact List.Perm.append_left X List.perm_append_comm
section
variable {P : Program} {ro : Option Nat} {n : Nat} {w0 : World} {Q : Exit → Act → World → Prop} {r : Env} {ds : List Nat} {m : Mem} {H : SHeap}
theorem WC.heap {c : Code} {H' : SHeap} (hh : ∀ w, Sat w0 m H w → Sat w0 m H' w) (h : WC P ro n w0 c Q r ds m H') : WC P ro n w0 c Q r ds m H := fun tmps w ho hs => h tmps w ho (hh w hs)
end
end Go.Eng

/-
  A walk's engine: append to a row, its room told: a row that has none stays nil, or gets some; a Builder as the walks use it. No condition.
-/
set_option linter.all false
namespace Go.Eng
open Go Go.RowKit Go.ChangeMaps
section
variable {P : Program} {ro : Option Nat} {n : Nat} {w0 : World} {Q : Exit → Act → World → Prop} {r : Env} {ds : List Nat} {m : Mem} {H : SHeap}
  {ops : Array Oper} {l : List Oper} {d : Nat} {ty : TypeId} {pos : String} {after : Array Edge}
theorem run_append_row2 {t tx e : TypeId} {sz by' : Nat} {z : Value} {a : Option Addr} {cap : Nat} {es es' : List (List Value)} {x : Value} {w : World} (hu : P.underlying t = some (.slice e)) (hz : zeroB P e = some z) (hsz : sizeB P e = some sz) (hby : bytesB P e = some by')
    (hzs : z.cells.size = sz) (hs : Sat w0 m (.row a cap e sz es :: H) w) (hx : Src P sz tx x es'.length es'.flatten w) (hes : ∀ q ∈ es', q.length = sz) (h63 : es.length + es'.length ≤ 9223372036854775807) (hb : (es.length + es'.length) * by' ≤ 140737488355328) :
    ∃ a' cap' w', (Builtin.append_ #[t, tx] ty #[.slice a es.length cap, x]).run P w = .ok (.slice a' (es ++ es').length cap') w' ∧ Sat w0 m (.row a' cap' e sz (es ++ es') :: H) w' ∧ ((a = none ∨ 0 < cap) → (a' = none ∨ 0 < cap')) := by
  obtain ⟨i, hi, hib, _⟩ := run_info hby w
  have his : i.size = sz := by
    unfold sizeB at hsz; rw [hi] at hsz; simpa [lit_eq] using hsz
  have hiz : i.zero = some z := by
    unfold zeroB at hz; rw [hi] at hz; simpa using hz
  have hold : Item.holds w (.row a cap e sz es) := hs.own _ List.mem_cons_self
  by_cases hroom : es.length + es'.length ≤ cap
  · -- there is room
    cases a with
    | none =>
      have h1 : es = [] ∧ cap = 0 := hold
      obtain ⟨h1, h2⟩ := h1
      subst h1; subst h2
      have h3 : es' = [] := List.eq_nil_of_length_eq_zero (by simpa using hroom)
      subst h3
      refine ⟨none, 0, w, ?_, by simpa using hs, fun _ => .inl rfl⟩
      rcases hx.kind with ⟨e', hk⟩ | hk <;> simp [Builtin.append_, run_underlying hu, run_underlying hk, sizeOf, typeInfo, hi, hx.len, his]
      all_goals
        have := hx.cells
        simp at this
        simp [this]
    | some a =>
      obtain ⟨arr, fz, g1, g2, g3, g4, g5, g6, g7⟩ := hold
      have hal : a = ⟨a.block, 0, none⟩ := g1
      generalize hbk : a.block = b at *
      subst g1
      have hlen1 := flatten_length g6
      have hlen2 := flatten_length hes
      have hfitA : es.length * sz + es'.flatten.length ≤ arr.toList.length := by
        have hL : arr.toList.length = cap * sz := by simp [g3]
        rw [hlen2, ← Nat.add_mul, hL]; exact Nat.mul_le_mul_right _ hroom
      have hb1 : Sat w0 m (.blk b (.cells arr.toList.toArray e fz) :: H) w := by
        refine hs.turn (j := .blk b (.cells arr.toList.toArray e fz)) rfl rfl rfl (Nat.le_refl _) (fun _ _ _ => rfl) (by simpa [Item.holds] using g2) (fun y hy => .inl (by simpa [Item.foot] using hy)) (by simp [Item.foot])
      obtain ⟨w', k1, k2⟩ := run_laid (P := P) es'.flatten 0 (es.length * sz) arr.toList H w (by simpa using hfitA) (by rcases g7.1 with h | h; exact .inl h; exact .inr (.inr (by simpa using h))) (List.all_eq_true.2 fun u hu => hx.one u hu) hb1
      refine ⟨some ⟨b, 0, none⟩, cap, w', ?_, ?_, fun h => .inr (h.resolve_left (by simp))⟩
      · rcases hx.kind with ⟨e', hk⟩ | hk <;>
          simp [Builtin.append_, run_underlying hu, run_underlying hk, sizeOf, typeInfo, hi, hx.len, his, hroom, hx.cells, Addr.add_lit, k1]
      · have hw' : w'.heap[b]? = some (.cells (laid arr.toList (es.length * sz + 0) es'.flatten).toArray e fz) := k2.own _ List.mem_cons_self
        refine k2.turn (j := .row (some ⟨b, 0, none⟩) cap e sz (es ++ es')) rfl rfl rfl (Nat.le_refl _) (fun _ _ _ => rfl) ?_ (fun y hy => .inl (by simpa [Item.foot] using hy)) (by simp [Item.foot])
        refine ⟨_, fz, rfl, hw', ?_, by simpa using hroom, ?_, ?_, ?_⟩
        · simp [laid_length, g3]
        · simp only [Nat.add_zero, List.length_append, List.flatten_append]
          rw [Nat.add_mul, ← hlen2, take_laid _ _ _ hfitA, g5]
        · intro q hq
          rcases List.mem_append.1 hq with h | h
          · exact g6 q h
          · exact hes q h
        · exact ⟨by simpa [laid_length] using g7.1, fun hq => g7.2 (by simp only [List.length_append] at hq; omega)⟩
  · -- a new row
    have hfit := growslice_fits (bytes := i.bytes) (show cap < es.length + es'.length by omega) (by rw [hib]; exact hb)
    have holds : (∀ q ∈ es, q.length = sz) ∧ ∀ w1 : World, w1.heap = w.heap → (Builtin.firstCells i.size es.length (.slice a es.length cap)).run P w1 = .ok es.flatten.toArray w1 := by
      cases a with
      | none =>
        have h1 : es = [] ∧ cap = 0 := hold
        obtain ⟨h1, h2⟩ := h1
        subst h1
        exact ⟨(fun q hq => by cases hq), (fun w1 _ => by simp [Builtin.firstCells])⟩
      | some a =>
        have hold' := hold
        obtain ⟨arr, fz, g1, g2, g3, g4, g5, g6, _⟩ := hold
        refine ⟨g6, fun w1 hw1 => ?_⟩
        refine run_firstCells_some w1 i.size es.length a es.length cap es.flatten (by rw [his]; exact flatten_length g6) (fun j u hu => ?_)
        have hsp : a.spot = none := by rw [g1]
        have hoff : a.off = 0 := by rw [g1]
        rw [← g5, List.getElem?_take] at hu
        split at hu
        · rw [add_eq hsp, hoff]
          simp only [World.cell?, hw1, g2]
          simpa using hu
        · cases hu
    have hr := run_append_grow_src (P := P) w t tx ty e i z hu hi hiz a es.length cap es.flatten (holds.2 _ rfl) x es'.length es'.flatten (by rw [his]; exact hx) (by omega) (by omega) hfit
    have hge := grownCap_ge w (es.length + es'.length) cap e
    refine ⟨_, _, _, by rw [List.length_append]; exact hr, ?_, fun _ => .inr (by omega)⟩
    have hs2 : Sat w0 m H w.drew := hs.drop.drew
    have hs3 := hs2.alloc (.cells ((es.flatten ++ es'.flatten).toArray ++ Builtin.zeroCells z.cells (grownCap w (es.length + es'.length) cap e - (es.length + es'.length))) e (0, 0))
    refine hs3.turn (j := .row (some ⟨w.heap.size, 0, none⟩) (grownCap w (es.length + es'.length) cap e) e sz (es ++ es')) rfl rfl rfl (Nat.le_refl _) (fun _ _ _ => rfl) ?_ (fun y hy => .inl (by simpa [Item.foot] using hy)) (by simp [Item.foot])
    have hl1 := flatten_length holds.1
    have hl2 := flatten_length hes
    refine ⟨_, (0, 0), rfl, World.alloc_heap_new _ _, ?_, by simpa using hge, ?_, ?_, .inl rfl, fun _ => grownCap_le w h63 cap e⟩
    · simp only [Array.size_append, List.size_toArray, List.length_append, size_zeroCells, hzs, hl1, hl2, ← Nat.add_mul]
      congr 1; omega
    · simp only [Array.toList_append, List.flatten_append, List.length_append]
      rw [show (es.length + es'.length) * sz = (es.flatten ++ es'.flatten).length by rw [List.length_append, hl1, hl2, Nat.add_mul]]
      exact List.take_left
    · intro q hq
      rcases List.mem_append.1 hq with h | h
      · exact holds.1 q h
      · exact hes q h
theorem WL.appendS2 {t tx e : TypeId} {x y : Operand} {z : Value} {a : Option Addr} {cap len : Nat} {es : List (List Value)} {s : List UInt8} {H1 : SHeap} (hx : r.ev x = some (.slice a len cap)) (hy : r.ev y = some (str s))
    (hu : P.underlying t = some (.slice e)) (hux : P.underlying tx = some .string) (ho : Out (.row a cap e 1 es) H H1) (hz : zeroB P e = some z) (hsz : sizeB P e = some 1) (hby : bytesB P e = some 1) (hzs : z.cells.size = 1) (hlen : len = es.length)
    (hb : es.length + s.length ≤ 140737488355328) (hd : Nat.blt d n = true)
    (h : ∀ a' cap', ((a = none ∨ 0 < cap) → (a' = none ∨ 0 < cap')) → WL P ro n w0 ops Q l ((d, .slice a' (es.length + s.length) cap') :: r) ds m (.row a' cap' e 1 (es ++ s.map fun b => [Value.int .u8 (b.toNat : Int)]) :: H1)) :
    WL P ro n w0 ops Q (⟨some d, .call ⟨.builtin .append, #[x, y], #[t, tx]⟩, ty, pos, after, none⟩ :: l) r ds m H := by
  subst hlen
  refine .gen (fun v m' H' => ∃ a' cap', ((a = none ∨ 0 < cap) → (a' = none ∨ 0 < cap')) ∧ v = .slice a' (es.length + s.length) cap' ∧ m' = m ∧ H' = .row a' cap' e 1 (es ++ s.map fun b => [Value.int .u8 (b.toNat : Int)]) :: H1) hd (fun _ h => by cases h) (fun tmps w hok hs => ?_)
    (by rintro _ _ _ ⟨a', cap', hc, rfl, rfl, rfl⟩; exact h a' cap' hc)
  have hl : (s.map fun b => [Value.int .u8 (b.toNat : Int)]).length = s.length := List.length_map _
  obtain ⟨a', cap', w', h1, h2, h3⟩ := run_append_row2 (P := P) (ty := ty) (tx := tx) (es' := s.map fun b => [Value.int .u8 (b.toNat : Int)]) (x := str s) hu hz hsz hby hzs (hs.perm ho.perm)
    (by have := (Source.str (P := P) (w0 := w0) (m := m) (H := H) hux s) w hs; rw [hl, show (s.map fun b => [Value.int IntKind.u8 (b.toNat : Int)]).flatten = s.map fun b => Value.int .u8 (b.toNat : Int) from flatten_single _ s]; exact this) (by simp) (by rw [hl]; omega) (by rw [hl]; omega)
  rw [List.length_append, hl] at h1
  refine ⟨.slice a' (es.length + s.length) cap', m, _, w', ?_, h2, a', cap', h3, rfl, rfl, rfl⟩
  simp only [execOp, resolve, invoke, builtin, Sem.run_bind, Sem.run_pure, Result.andThen_ok, List.map_toArray, List.map_cons, List.map_nil, hok.ev hx, hok.ev hy, h1]
end
theorem rowR_blk {w0 : World} {m : Mem} {H : SHeap} {b sz : Nat} {L : List Value} {T : TypeId} {fz : Nat × Nat} {es : List (List Value)} (hm : Item.blk b (.cells L.toArray T fz) ∈ H) (hL : L = es.flatten) (hes : ∀ e ∈ es, e.length = sz) : RowR w0 m H sz (Option.some ⟨b, 0, none⟩) es := by
  intro w hs
  refine ⟨hes, fun j v hj => ?_⟩
  have h : w.heap[b]? = Option.some (.cells L.toArray T fz) := hs.own _ hm
  rw [add_eq rfl]
  subst hL
  simp only [Nat.zero_add, World.cell?, h]
  simpa using hj
end Go.Eng

/-
  A walk's engine, nineteenth part: arrays by their address: elements, slices of them, and what is copied there. No condition.
-/
set_option linter.all false
namespace Go.Eng
open Go Go.RowKit
section
variable {P : Program} {ro : Option Nat} {n : Nat} {w0 : World} {Q : Exit → Act → World → Prop} {r : Env} {ds : List Nat} {m : Mem} {H : SHeap}
  {ops : Array Oper} {l : List Oper} {d : Nat} {ty : TypeId} {pos : String} {after : Array Edge} {t t' : TypeId} {x y : Operand}
end
section
variable {P : Program} {ro : Option Nat} {n : Nat} {w0 : World} {Q : Exit → Act → World → Prop} {r : Env} {ds : List Nat} {m : Mem} {H : SHeap} {ops : Array Oper} {l : List Oper}
theorem WL.heap {H' : SHeap} (hh : ∀ w, Sat w0 m H w → Sat w0 m H' w) (h : WL P ro n w0 ops Q l r ds m H') : WL P ro n w0 ops Q l r ds m H := fun tmps w ho hs => h tmps w ho (hh w hs)
end
theorem all_cons {α : Type} {p : α → Prop} {a : α} {l : List α} (h : p a) (k : ∀ x ∈ l, p x) : ∀ x ∈ a :: l, p x := fun x hx => by
  rcases List.mem_cons.1 hx with rfl | hx
  · exact h
  · exact k x hx
theorem Acts.mk {P : Program} {ro : Option Nat} {n : Nat} {w0 : World} {l : List Oper} {g : Nat} {ds : List Nat} {K : Env → Mem → SHeap → SHeap → Prop} {k V : Nat} {r : Env} {m : Mem} {S U : SHeap} {i : Nat} {o : Oper} {d : Nat} (ho : l[i]? = some o) (hd : o.dst = some d) (hnd : ∀ c, o.op ≠ .defer c)
    (h : WL P ro n w0 l.toArray (QE w0 d ds S m fun v m' S' U' => WE P ro n w0 l g ds K k (V ||| 1 <<< i) ((d, v) :: r) m' S' U') [o] (Env.sel (o.looksAt l.toArray) r) ds m (S ++ U)) : Acts P ro n w0 l g ds K k V r m S U i := ⟨o, d, ho, hd, hnd, h⟩
end Go.Eng

/-
  Contracts of the library, laid at this seat by the shelf's own tools. No condition.
-/
namespace Go.Proofs.Ytpghpbknjdnkkaa
open Go Go.Shelf Go.Proofs
set_option linter.all false
def sh_lays143_ren : Go.Shelf.Ren := ⟨fun | 143 => 36 | 219 => 54 | 217 => 69 | 225 => 70 | 224 => 71 | 267 => 72 | 266 => 82 | 314 => 83 | n => n, fun | 9 => 9 | 3 => 3 | 4 => 4 | 5 => 5 | 46 => 88 | 146 => 106 | 51 => 98 | n => n, fun | 1 => 0 | n => n⟩
def sh_lays99_ren : Go.Shelf.Ren := ⟨fun | 99 => 37 | 206 => 55 | n => n, fun | 9 => 9 | 4 => 4 | 3 => 3 | n => n, fun | n => n⟩
def sh_lays100_ren : Go.Shelf.Ren := ⟨fun | 100 => 38 | 207 => 56 | n => n, fun | 9 => 9 | 4 => 4 | 3 => 3 | n => n, fun | n => n⟩
def sh_lays105_ren : Go.Shelf.Ren := ⟨fun | 105 => 41 | 212 => 57 | 99 => 37 | 165 => 58 | 166 => 40 | 170 => 59 | 169 => 25 | 263 => 73 | 264 => 74 | 206 => 55 | 240 => 50 | 241 => 75 | 276 => 64 | 277 => 84 | n => n, fun | 9 => 9 | 3 => 3 | 4 => 4 | 20 => 20 | 0 => 0 | 46 => 88 | 109 => 89 | 5 => 5 | 72 => 51 | 76 => 54 | 51 => 98 | 146 => 106 | 53 => 108 | 148 => 109 | 70 => 48 | 37 => 49 | 75 => 53 | 127 => 83 | 164 => 96 | 80 => 56 | n => n, fun | n => n⟩
theorem sh_lays105 : Go.Proofs.Lays.n105 Try.prog sh_lays105_ren := {
  mixed := by kernel_rfl
  f99 := Try.func37.trans (congrArg some (by kernel_rfl))
  f105 := Try.func41.trans (congrArg some (by kernel_rfl))
  f165 := Try.func58.trans (congrArg some (by kernel_rfl))
  f166 := Try.func40.trans (congrArg some (by kernel_rfl))
  f169 := Try.func25.trans (congrArg some (by kernel_rfl))
  f170 := Try.func59.trans (congrArg some (by kernel_rfl))
  f206 := Try.func55.trans (congrArg some (by kernel_rfl))
  f212 := Try.func57.trans (congrArg some (by kernel_rfl))
  f240 := Try.func50.trans (congrArg some (by kernel_rfl))
  f241 := Try.func75.trans (congrArg some (by kernel_rfl))
  f263 := Try.func73.trans (congrArg some (by kernel_rfl))
  f264 := Try.func74.trans (congrArg some (by kernel_rfl))
  f276 := Try.func64.trans (congrArg some (by kernel_rfl))
  f277 := Try.func84.trans (congrArg some (by kernel_rfl))
  t0 := Try.underlying0
  a0 := Try.isAgg0
  z0 := Try.sizeOf0
  v0 := Try.zeroValue0
  t3 := Try.underlying3
  a3 := Try.isAgg3
  z3 := Try.sizeOf3
  v3 := Try.zeroValue3
  t4 := Try.underlying4
  a4 := Try.isAgg4
  z4 := Try.sizeOf4
  v4 := Try.zeroValue4
  t5 := Try.underlying5
  a5 := Try.isAgg5
  z5 := Try.sizeOf5
  v5 := Try.zeroValue5
  t9 := Try.underlying9
  a9 := Try.isAgg9
  z9 := Try.sizeOf9
  v9 := Try.zeroValue9
  t20 := Try.underlying20
  a20 := Try.isAgg20
  z20 := Try.sizeOf20
  v20 := Try.zeroValue20
  t37 := Try.underlying49
  a37 := Try.isAgg49
  z37 := Try.sizeOf49
  v37 := Try.zeroValue49
  t46 := Try.underlying88
  a46 := Try.isAgg88
  z46 := Try.sizeOf88
  v46 := Try.zeroValue88
  t51 := Try.underlying98
  a51 := Try.isAgg98
  z51 := Try.sizeOf98
  v51 := Try.zeroValue98
  t53 := Try.underlying108
  a53 := Try.isAgg108
  z53 := Try.sizeOf108
  v53 := Try.zeroValue108
  t70 := Try.underlying48
  a70 := Try.isAgg48
  z70 := Try.sizeOf48
  v70 := Try.zeroValue48
  t72 := Try.underlying51
  a72 := Try.isAgg51
  z72 := Try.sizeOf51
  v72 := Try.zeroValue51
  t75 := Try.underlying53
  a75 := Try.isAgg53
  z75 := Try.sizeOf53
  v75 := Try.zeroValue53
  t76 := Try.underlying54
  a76 := Try.isAgg54
  z76 := Try.sizeOf54
  v76 := Try.zeroValue54
  t109 := Try.underlying89
  a109 := Try.isAgg89
  z109 := Try.sizeOf89
  v109 := Try.zeroValue89
  t127 := Try.underlying83
  a127 := Try.isAgg83
  z127 := Try.sizeOf83
  v127 := Try.zeroValue83
  t146 := Try.underlying106
  a146 := Try.isAgg106
  z146 := Try.sizeOf106
  v146 := Try.zeroValue106
  t148 := Try.underlying109
  a148 := Try.isAgg109
  z148 := Try.sizeOf109
  v148 := Try.zeroValue109
  t164 := Try.underlying96
  a164 := Try.isAgg96
  z164 := Try.sizeOf96
  v164 := Try.zeroValue96 }
theorem sh_Builder_Extra_105 : Builder.Extra Try.prog sh_lays105_ren := {
  sizeBuilder := by kernel_rfl
  liesBuilder := by kernel_rfl
  t5 := Try.underlying5
  a5 := Try.isAgg5
  z5 := Try.sizeOf5
  v5 := Try.zeroValue5
  infoByte := by kernel_rfl
  cellsByte := by kernel_rfl
  sizeByte := by kernel_rfl
  neB5 := by decide }
open Go.RowKit Go.Lib in
theorem sh_strings_Repeat (s : ByteArray) (c : Nat) (w : World) (hc : c ≤ 9223372036854775807) (hlen : s.size * c ≤ 140737488355328) :
    Calls Try.prog 41 #[.string s, .int .i64 c] w fun e w' => e = .returned (.string ⟨(Lib.repeatL s.data.toList c).toArray⟩) ∧ Below w.heap.size w w' := Any.strings_Repeat sh_lays105 sh_Builder_Extra_105 s c w hc hlen
end Go.Proofs.Ytpghpbknjdnkkaa

/-
  strings.Builder as the walks use it; the library's functions that clusters call: strings.Index, HasPrefix, HasSuffix, Repeat. No condition.
-/
namespace Go.Proofs.Ytpghpbknjdnkkaa
open Go Go.Eng
set_option maxRecDepth 100000
set_option maxHeartbeats 4000000
set_option linter.all false
attribute [local irreducible] WL WC WQ QFun QLoop Does Q1 QRound QAssign Go.Addr.add
theorem extern_noEscape : Extern.find Try.f64 = some Extern.AbiNoEscape.same := by kernel_rfl
theorem copyCheck_any {b cap : Nat} {ao a : Option Addr} {t : List UInt8} (hao : ao = none ∨ ao = some ⟨b, 0, none⟩) (w0 : World) (m : Mem) (H : SHeap) :
    Does Try.prog 50 #[.pointer (some ⟨b, 0, none⟩)] w0 m (.blk b (.cells [.pointer ao, .slice a t.length cap].toArray 51 (0, 0)) :: .row a cap 5 1 (bCs t) :: H) (fun v m' H' => m' = m ∧ H' = .blk b (.cells [.pointer (some ⟨b, 0, none⟩), .slice a t.length cap].toArray 51 (0, 0)) :: .row a cap 5 1 (bCs t) :: H) := by
  refine Does.of_body (args := [.pointer (some ⟨b, 0, none⟩)]) Try.func50 rfl Try.ntmps50 rfl ?_
  rcases hao with rfl | rfl
  · (try (refine st ?_; intros))
    refine WL.toUnsafe rfl zhs (by exact Nat.succ_pos _) rfl rfl (by kernel_rfl) rfl ?_
    (try (refine st ?_; intros))
    refine WL.extern (vs := [.pointer (some ⟨b, 0, none⟩)]) Try.func64 rfl rfl (by kernel_rfl) extern_noEscape rfl (fun _ => rfl) rfl ?_
    (try (refine st ?_; intros))
    refine WL.fromUnsafe rfl zhs rfl rfl (by kernel_rfl) (by kernel_rfl) rfl ?_
    (try (refine st ?_; intros))
    exact q_finNorm0 (H0 := .blk b (.cells [.pointer (some ⟨b, 0, none⟩), .slice a t.length cap].toArray 51 (0, 0)) :: .row a cap 5 1 (bCs t) :: H) ⟨rfl, rfl⟩ (hd := zpk)
  · (try (refine st ?_; intros))
    refine WL.neqSameP (j := Try.prog.types[51]) rfl rfl rfl (by kernel_rfl) rfl ?_
    (try (refine st ?_; intros))
    exact q_finNorm0 (H0 := .blk b (.cells [.pointer (some ⟨b, 0, none⟩), .slice a t.length cap].toArray 51 (0, 0)) :: .row a cap 5 1 (bCs t) :: H) ⟨rfl, rfl⟩ (hd := zpk)
/-- a Builder that holds a text -/
def Bldr (b : Nat) (t : List UInt8) (H : SHeap) (H' : SHeap) : Prop :=
  ∃ (ao a : Option Addr) (cap : Nat), (ao = none ∨ ao = some ⟨b, 0, none⟩) ∧ (a = none ∨ 0 < cap) ∧ H' = .blk b (.cells [.pointer ao, .slice a t.length cap].toArray 51 (0, 0)) :: .row a cap 5 1 (bCs t) :: H
/-- there is room for both in one row -/
def FitsB (t s : List UInt8) : Prop := t.length + s.length ≤ 140737488355328
theorem writeString_any {b cap : Nat} {ao a : Option Addr} {t s : List UInt8} (hao : ao = none ∨ ao = some ⟨b, 0, none⟩) (hc : a = none ∨ 0 < cap) (hl : FitsB t s) (w0 : World) (m : Mem) (H : SHeap) :
    Does Try.prog 40 #[.pointer (some ⟨b, 0, none⟩), str s] w0 m (.blk b (.cells [.pointer ao, .slice a t.length cap].toArray 51 (0, 0)) :: .row a cap 5 1 (bCs t) :: H) (fun v m' H' => m' = m ∧ v = .tuple #[.int .i64 (s.length : Int), .nilIface] ∧ Bldr b (t ++ s) H H') := by
  refine Does.of_body (args := [.pointer (some ⟨b, 0, none⟩), str s]) Try.func40 rfl Try.ntmps40 rfl ?_
  have hbl := bCs_length t
  have e : bCs t ++ (s.map fun b => [Value.int .u8 (b.toNat : Int)]) = bCs (t ++ s) := by simp [bCs]
  (try (refine st ?_; intros))
  refine w_callF Try.func50 ?_ (hs := copyCheck_any hao _ _ _)
  rintro v m H1 ⟨rfl, rfl⟩
  (try (refine st ?_; intros))
  refine WL.appendS2 (s := s) rfl rfl rfl rfl (by (repeat (first | exact Out.here | apply Out.there))) rfl rfl rfl rfl hbl.symm (by rw [hbl]; exact hl) rfl ?_
  intro a2 cap2 hc2
  rw [e, hbl, ← List.length_append]
  (try (refine st ?_; intros))
  exact q_fin0 (H0 := .blk b (.cells [.pointer (some ⟨b, 0, none⟩), .slice a2 (t ++ s).length cap2].toArray 51 (0, 0)) :: .row a2 cap2 5 1 (bCs (t ++ s)) :: H) ⟨rfl, rfl, some ⟨b, 0, none⟩, a2, cap2, .inr rfl, hc2 hc, rfl⟩ (hd := zpk)
theorem sq_C12_1 {G : Prop} (h : G := by (repeat (first | (refine sp ?_; (repeat intro zzc)) | (refine iSD rfl ?_; refine WL.sliceData rfl (by assumption) rfl ?_))); exact WQ.q1 rfl) : G := h
theorem cm_C12_1 {G G' : Prop} (next : G') (h : Bx G' → G := by intro zzn; (try (refine wcal 0 ?_ (hwl := by intro zm zF zle; exact sq_C12_1))); (try (refine wcal 1 ?_ (hwl := by intro zm zF zle; exact sq_C12_1))); (try (refine wcal 2 ?_ (hwl := by intro zm zF zle; exact sq_C12_1))); (try (refine wcal 3 ?_ (hwl := by intro zm zF zle; exact sq_C12_1))); (try (refine wcal 4 ?_ (hwl := by intro zm zF zle; exact sq_C12_1))); (try (refine wcal 5 ?_ (hwl := by intro zm zF zle; exact sq_C12_1))); (try (refine wcal 6 ?_ (hwl := by intro zm zF zle; exact sq_C12_1))); (try (refine wcal 7 ?_ (hwl := by intro zm zF zle; exact sq_C12_1))); (try (refine wcal 8 ?_ (hwl := by intro zm zF zle; exact sq_C12_1))); (try (refine wcal 9 ?_ (hwl := by intro zm zF zle; exact sq_C12_1))); (try (refine wcal 10 ?_ (hwl := by intro zm zF zle; exact sq_C12_1))); (try (refine wcal 11 ?_ (hwl := by intro zm zF zle; exact sq_C12_1))); (try (refine wcal 12 ?_ (hwl := by intro zm zF zle; exact sq_C12_1))); (try (refine wcal 13 ?_ (hwl := by intro zm zF zle; exact sq_C12_1))); (try (refine wcal 14 ?_ (hwl := by intro zm zF zle; exact sq_C12_1))); (try (refine wcal 15 ?_ (hwl := by intro zm zF zle; exact sq_C12_1))); (try (refine wcal 16 ?_ (hwl := by intro zm zF zle; exact sq_C12_1))); (try (refine wcal 17 ?_ (hwl := by intro zm zF zle; exact sq_C12_1))); (try (refine wcal 18 ?_ (hwl := by intro zm zF zle; exact sq_C12_1))); (try (refine wcal 19 ?_ (hwl := by intro zm zF zle; exact sq_C12_1))); (try (refine wcal 20 ?_ (hwl := by intro zm zF zle; exact sq_C12_1))); (try (refine wcal 21 ?_ (hwl := by intro zm zF zle; exact sq_C12_1))); (try (refine wcal 22 ?_ (hwl := by intro zm zF zle; exact sq_C12_1))); (try (refine wcal 23 ?_ (hwl := by intro zm zF zle; exact sq_C12_1))); (try (refine wcal 24 ?_ (hwl := by intro zm zF zle; exact sq_C12_1))); (try (refine wcal 25 ?_ (hwl := by intro zm zF zle; exact sq_C12_1))); (try (refine wcal 26 ?_ (hwl := by intro zm zF zle; exact sq_C12_1))); (try (refine wcal 27 ?_ (hwl := by intro zm zF zle; exact sq_C12_1))); (try (refine wcal 28 ?_ (hwl := by intro zm zF zle; exact sq_C12_1))); (try (refine wcal 29 ?_ (hwl := by intro zm zF zle; exact sq_C12_1))); (try (refine wcal 30 ?_ (hwl := by intro zm zF zle; exact sq_C12_1))); (try (refine wcal 31 ?_ (hwl := by intro zm zF zle; exact sq_C12_1))); (try (refine wcal 32 ?_ (hwl := by intro zm zF zle; exact sq_C12_1))); (try (refine wcal 33 ?_ (hwl := by intro zm zF zle; exact sq_C12_1))); (try (refine wcal 34 ?_ (hwl := by intro zm zF zle; exact sq_C12_1))); (try (refine wcal 35 ?_ (hwl := by intro zm zF zle; exact sq_C12_1))); (try (refine wcal 36 ?_ (hwl := by intro zm zF zle; exact sq_C12_1))); (try (refine wcal 37 ?_ (hwl := by intro zm zF zle; exact sq_C12_1))); (try (refine wcal 38 ?_ (hwl := by intro zm zF zle; exact sq_C12_1))); (try (refine wcal 39 ?_ (hwl := by intro zm zF zle; exact sq_C12_1))); (try (refine wcal 40 ?_ (hwl := by intro zm zF zle; exact sq_C12_1))); (try (refine wcal 41 ?_ (hwl := by intro zm zF zle; exact sq_C12_1))); exact zzn.out) : G := h ⟨next⟩
theorem st_C12_1 {G G' : Prop} (next : G') (h : Bx G' → G := by intro zzn; (first | ((refine st ?_; (repeat intro zzc)); (try ((first | (refine iSD rfl ?_; refine WL.sliceData rfl (by assumption) rfl ?_) | ((refine iDraw ?_; (first | refine WC.drawAll rfl (by decide +kernel) ?_ | refine WC.draw 1 rfl (by decide +kernel) ?_ | refine WC.draw 2 rfl (by decide +kernel) ?_ | refine WC.draw 3 rfl (by decide +kernel) ?_ | refine WC.draw 4 rfl (by decide +kernel) ?_ | refine WC.draw 5 rfl (by decide +kernel) ?_ | refine WC.draw 6 rfl (by decide +kernel) ?_ | refine WC.draw 7 rfl (by decide +kernel) ?_ | refine WC.draw 8 rfl (by decide +kernel) ?_ | refine WC.draw 9 rfl (by decide +kernel) ?_ | refine WC.draw 10 rfl (by decide +kernel) ?_ | refine WC.draw 11 rfl (by decide +kernel) ?_ | refine WC.draw 12 rfl (by decide +kernel) ?_ | refine WC.draw 13 rfl (by decide +kernel) ?_ | refine WC.draw 14 rfl (by decide +kernel) ?_ | refine WC.draw 15 rfl (by decide +kernel) ?_ | refine WC.draw 16 rfl (by decide +kernel) ?_ | refine WC.draw 17 rfl (by decide +kernel) ?_ | refine WC.draw 18 rfl (by decide +kernel) ?_ | refine WC.draw 19 rfl (by decide +kernel) ?_ | refine WC.draw 20 rfl (by decide +kernel) ?_ | refine WC.draw 21 rfl (by decide +kernel) ?_ | refine WC.draw 22 rfl (by decide +kernel) ?_ | refine WC.draw 23 rfl (by decide +kernel) ?_ | refine WC.draw 24 rfl (by decide +kernel) ?_)); (repeat (refine WD.cons rfl (fun c h => by cases h) sq_C12_1 ?_)); refine WD.nil ?_)); (try (refine st ?_; (repeat intro zzc)))))) | ((first | (refine iSD rfl ?_; refine WL.sliceData rfl (by assumption) rfl ?_) | ((refine iDraw ?_; (first | refine WC.drawAll rfl (by decide +kernel) ?_ | refine WC.draw 1 rfl (by decide +kernel) ?_ | refine WC.draw 2 rfl (by decide +kernel) ?_ | refine WC.draw 3 rfl (by decide +kernel) ?_ | refine WC.draw 4 rfl (by decide +kernel) ?_ | refine WC.draw 5 rfl (by decide +kernel) ?_ | refine WC.draw 6 rfl (by decide +kernel) ?_ | refine WC.draw 7 rfl (by decide +kernel) ?_ | refine WC.draw 8 rfl (by decide +kernel) ?_ | refine WC.draw 9 rfl (by decide +kernel) ?_ | refine WC.draw 10 rfl (by decide +kernel) ?_ | refine WC.draw 11 rfl (by decide +kernel) ?_ | refine WC.draw 12 rfl (by decide +kernel) ?_ | refine WC.draw 13 rfl (by decide +kernel) ?_ | refine WC.draw 14 rfl (by decide +kernel) ?_ | refine WC.draw 15 rfl (by decide +kernel) ?_ | refine WC.draw 16 rfl (by decide +kernel) ?_ | refine WC.draw 17 rfl (by decide +kernel) ?_ | refine WC.draw 18 rfl (by decide +kernel) ?_ | refine WC.draw 19 rfl (by decide +kernel) ?_ | refine WC.draw 20 rfl (by decide +kernel) ?_ | refine WC.draw 21 rfl (by decide +kernel) ?_ | refine WC.draw 22 rfl (by decide +kernel) ?_ | refine WC.draw 23 rfl (by decide +kernel) ?_ | refine WC.draw 24 rfl (by decide +kernel) ?_)); (repeat (refine WD.cons rfl (fun c h => by cases h) sq_C12_1 ?_)); refine WD.nil ?_)); (try (refine st ?_; (repeat intro zzc))))); (repeat ((first | (refine iSD rfl ?_; refine WL.sliceData rfl (by assumption) rfl ?_) | ((refine iDraw ?_; (first | refine WC.drawAll rfl (by decide +kernel) ?_ | refine WC.draw 1 rfl (by decide +kernel) ?_ | refine WC.draw 2 rfl (by decide +kernel) ?_ | refine WC.draw 3 rfl (by decide +kernel) ?_ | refine WC.draw 4 rfl (by decide +kernel) ?_ | refine WC.draw 5 rfl (by decide +kernel) ?_ | refine WC.draw 6 rfl (by decide +kernel) ?_ | refine WC.draw 7 rfl (by decide +kernel) ?_ | refine WC.draw 8 rfl (by decide +kernel) ?_ | refine WC.draw 9 rfl (by decide +kernel) ?_ | refine WC.draw 10 rfl (by decide +kernel) ?_ | refine WC.draw 11 rfl (by decide +kernel) ?_ | refine WC.draw 12 rfl (by decide +kernel) ?_ | refine WC.draw 13 rfl (by decide +kernel) ?_ | refine WC.draw 14 rfl (by decide +kernel) ?_ | refine WC.draw 15 rfl (by decide +kernel) ?_ | refine WC.draw 16 rfl (by decide +kernel) ?_ | refine WC.draw 17 rfl (by decide +kernel) ?_ | refine WC.draw 18 rfl (by decide +kernel) ?_ | refine WC.draw 19 rfl (by decide +kernel) ?_ | refine WC.draw 20 rfl (by decide +kernel) ?_ | refine WC.draw 21 rfl (by decide +kernel) ?_ | refine WC.draw 22 rfl (by decide +kernel) ?_ | refine WC.draw 23 rfl (by decide +kernel) ?_ | refine WC.draw 24 rfl (by decide +kernel) ?_)); (repeat (refine WD.cons rfl (fun c h => by cases h) sq_C12_1 ?_)); refine WD.nil ?_)); (try (refine st ?_; (repeat intro zzc))))); (repeat revert zzc); exact zzn.out) : G := h ⟨next⟩
theorem bString_any {b cap : Nat} {ao a : Option Addr} {t : List UInt8} (hc : a = none ∨ 0 < cap) (hl : t.length ≤ 140737488355328) (w0 : World) (m : Mem) (H : SHeap) :
    Does Try.prog 25 #[.pointer (some ⟨b, 0, none⟩)] w0 m (.blk b (.cells [.pointer ao, .slice a t.length cap].toArray 51 (0, 0)) :: .row a cap 5 1 (bCs t) :: H) (Gives (str t) m H) := by
  refine Does.of_body (args := [.pointer (some ⟨b, 0, none⟩)]) Try.func25 rfl Try.ntmps25 rfl ?_
  have hbl := bCs_length t
  (try (refine st_C12_1 ?_; intros))
  refine WC.drawE 11 ([.blk b (.cells [.pointer ao, .slice a t.length cap].toArray 51 (0, 0))]) (.row a cap 5 1 (bCs t) :: H) rfl (by decide +kernel) zpk ?_
  (refine cm_C12_1 ?_)
  refine WE.act1 10 (by decide +kernel) rfl rfl (fun c h => by cases h) ?_
  refine WL.strRow (s := t) rfl rfl (by (repeat (first | exact Out.here | apply Out.there))) rfl (by kernel_rfl) (by omega) rfl ?_
  (try (refine st_C12_1 ?_; intros))
  refine WQ.acted (B := []) (U := H) rfl (Mem.le.refl _) zpk ?_
  refine WE.done (by decide +kernel) ?_
  (try (refine st_C12_1 ?_; intros))
  exact q_fin0 (H0 := H) (Gives.mk rfl) (hd := zpk)
theorem repeat_any {s : List UInt8} {c : Nat} (hc : s.length * c ≤ 140737488355328) (hc2 : c ≤ 9223372036854775807) (w0 : World) (m : Mem) (H : SHeap) : Does Try.prog 41 #[str s, .int .i64 (c : Int)] w0 m H (Gives (str (Lib.repeatL s c)) m H) :=
  Does.ofBelow fun w _ => sh_strings_Repeat ⟨s.toArray⟩ c w hc2 (by simpa [ByteArray.size] using hc)
theorem repeat_blank (c : Nat) : Lib.repeatL [32] c = List.replicate c 32 := by
  induction c with
  | zero => rfl
  | succ c ih => rw [List.replicate_succ, ← ih]; rfl
end Go.Proofs.Ytpghpbknjdnkkaa

/-
  A walk's engine: a rune's last bit; answers told as propositions. No condition.
-/
set_option linter.all false
namespace Go.Eng
open Go Go.RowKit
theorem ofInt32 {a : Int} (h : 0 ≤ a ∧ a ≤ 2147483647) : (BitVec.ofInt 32 a).toNat = a.toNat := by
  rw [BitVec.toNat_ofInt]; norm_cast; omega
section
variable {P : Program} {ro : Option Nat} {n : Nat} {w0 : World} {Q : Exit → Act → World → Prop} {r : Env} {ds : List Nat} {m : Mem} {H : SHeap}
  {ops : Array Oper} {l : List Oper} {d : Nat} {ty t t' : TypeId} {pos : String} {after : Array Edge} {x y : Operand} {a : Int}
theorem WL.and32 (hx : r.ev x = some (.int .i32 a)) (hy : r.ev y = some (.int .i32 1)) (hd : Nat.blt d n = true) (ha : 0 ≤ a ∧ a ≤ 2147483647)
    (h : WL P ro n w0 ops Q l ((d, .int .i32 (a % 2)) :: r) ds m H) : WL P ro n w0 ops Q (⟨some d, .binOp .and t x y t', ty, pos, after, none⟩ :: l) r ds m H := by
  refine .int2 (fun _ _ _ => guard_int _ _ _ _ _ _ _ _) (fun w => ?_) hx hy hd h
  have h1 := ofInt32 ha
  have h2 : (BitVec.ofInt 32 1).toNat = 1 := by decide
  show (pure (Value.int IntKind.i32 (IntKind.i32.wrap (((BitVec.ofInt 32 a) &&& (BitVec.ofInt 32 1)).toNat : Int))) : Sem Value).run P w = _
  have h4 : ((a.toNat % 2 : Nat) : Int) = a % 2 := by omega
  rw [BitVec.toNat_and, h1, h2, Nat.and_one_is_mod, h4, wrap32_id ⟨by omega, by omega⟩]; rfl
end

theorem dcd_cong {p q : Prop} [Decidable p] [Decidable q] (h : p ↔ q) : dcd p = dcd q := by rw [dcd_eq, dcd_eq]; exact decide_eq_decide.2 h
theorem dcd_not {p : Prop} [Decidable p] : (!dcd p) = dcd (¬ p) := by rw [dcd_eq, dcd_eq]; exact (decide_not).symm
theorem tru_iff {p : Prop} [Decidable p] (h : p) : true = dcd p := (dcd_true h).symm
theorem fls_iff {p : Prop} [Decidable p] (h : ¬ p) : false = dcd p := (dcd_false h).symm
end Go.Eng

/-
  Plain facts on the pieces of a text, second part: pieces lie in step with the forms; the last piece. No condition.
-/
set_option linter.all false
namespace Go.Eng
open Go
set_option linter.all false
/-- a place where a piece begins -/
def Reach (l : List UInt8) (j : Nat) : Prop := ∃ pre, pieces l = pre ++ from_ l j
theorem Reach.zero (l : List UInt8) : Reach l 0 := ⟨[], rfl⟩
theorem Reach.step {l : List UInt8} {j : Nat} (h : Reach l j) (hj : j < l.length) : Reach l (j + (readP l j).w) := by
  obtain ⟨pre, h⟩ := h
  exact ⟨pre ++ [readP l j], by rw [h, from_cons hj]; simp⟩
def lastP (l : List UInt8) : Pc := (pieces l).getLastD ⟨0, 0, 0, false⟩
end Go.Eng

/-
  Plain facts on the pieces of a text, third part: which places are boundaries, and what stands around a place. No condition.
-/
set_option linter.all false
namespace Go.Eng
open Go
set_option linter.all false
theorem from_split (l : List UInt8) : ∀ d k, l.length - k ≤ d → ∀ pre p post, from_ l k = pre ++ p :: post → k ≤ p.at_ ∧ p.at_ < l.length ∧ p = readP l p.at_ ∧ p :: post = from_ l p.at_ ∧ (∀ q ∈ pre, q.at_ < p.at_)
  | 0, k, hd, pre, p, post, h => by
    rw [from_nil (by omega)] at h; simp at h
  | d + 1, k, hd, pre, p, post, h => by
    by_cases hk : k < l.length
    · have hw := readP_w hk
      have h' := h
      rw [from_cons hk] at h
      cases pre with
      | nil =>
        simp only [List.nil_append, List.cons.injEq] at h
        obtain ⟨rfl, h2⟩ := h
        have ha := readP_at l k
        refine ⟨by omega, by omega, by rw [ha], by rw [ha, from_cons hk, h2], by simp⟩
      | cons q pre =>
        simp only [List.cons_append, List.cons.injEq] at h
        obtain ⟨rfl, h2⟩ := h
        obtain ⟨g1, g2, g3, g4, g5⟩ := from_split l d _ (by omega) pre p post h2
        refine ⟨by omega, g2, g3, g4, fun q hq => ?_⟩
        rcases List.mem_cons.1 hq with rfl | hq
        · rw [readP_at]; omega
        · exact g5 q hq
    · rw [from_nil hk] at h; simp at h
theorem pieces_split {l : List UInt8} {pre post : List Pc} {p : Pc} (h : pieces l = pre ++ p :: post) : p.at_ < l.length ∧ p = readP l p.at_ ∧ p :: post = from_ l p.at_ ∧ (∀ q ∈ pre, q.at_ < p.at_) :=
  (from_split l l.length 0 (by omega) pre p post h).2
theorem reach_of_mem {l : List UInt8} {p : Pc} (h : p ∈ pieces l) : Reach l p.at_ ∧ p.at_ < l.length ∧ p = readP l p.at_ := by
  obtain ⟨pre, post, e⟩ := List.append_of_mem h
  obtain ⟨h1, h2, h3, _⟩ := pieces_split e
  exact ⟨⟨pre, by rw [e, h3]⟩, h1, h2⟩
/-- a place within a form: where the form begins -/
def Within (l : List UInt8) (at_ i : Nat) : Prop := i < at_ ∧ at_ < i + (readP l i).w ∧ (readP l i).b = false
end Go.Eng

/-
  Plain facts: pieces that two texts have alike, their order; a rune's first piece. No condition.
-/
set_option linter.all false
namespace Go.Eng
open Go
/-- a piece's place in the order of pieces -/
def wt (l : List UInt8) (p : Pc) : Nat := if p.b then 16777216 + gb l p.at_ else p.r
def cm : List Nat → List Nat → Nat
  | x :: X, y :: Y => if x = y then cm X Y + 1 else 0
  | _, _ => 0
def cmpL : List Nat → List Nat → Int
  | [], [] => 0
  | [], _ :: _ => -1
  | _ :: _, [] => 1
  | x :: X, y :: Y => if x = y then cmpL X Y else if x < y then -1 else 1
theorem cm_pre : ∀ (P X Y : List Nat), cm (P ++ X) (P ++ Y) = P.length + cm X Y
  | [], X, Y => by simp
  | p :: P, X, Y => by simp [cm, cm_pre P X Y]; omega
theorem cmpL_pre : ∀ (P X Y : List Nat), cmpL (P ++ X) (P ++ Y) = cmpL X Y
  | [], X, Y => rfl
  | p :: P, X, Y => by simp [cmpL, cmpL_pre P X Y]
/-- two rows that have nothing alike at their heads -/
def stop : List Nat → List Nat → Prop
  | x :: _, y :: _ => x ≠ y
  | _, _ => True
theorem readP_cases {l : List UInt8} {k : Nat} (hk : k < l.length) : ((readP l k).b = true ∧ (readP l k).w = 1 ∧ (readP l k).r = 65533) ∨ ((readP l k).b = false ∧ (readP l k).w = wd (readP l k).r ∧ (readP l k).r ≤ 1114111) := by
  unfold readP
  split
  · exact .inl ⟨rfl, rfl, rfl⟩
  · rename_i h
    rcases dl_cases (l.drop k) (by simp; omega) with ⟨h1, h2, _⟩ | ⟨h2, _⟩
    · exact .inr ⟨rfl, h2, okr_le h1⟩
    · exact absurd h2 h
theorem wt_read {l : List UInt8} {k : Nat} : wt l (readP l k) = if (readP l k).b then 16777216 + gb l k else (readP l k).r := by unfold wt; rw [readP_at]
/-- so far all is alike -/
def Sh (a b : List UInt8) (n k : Nat) : Prop := ∃ pa pb, pieces a = pa ++ from_ a k ∧ pieces b = pb ++ from_ b k ∧ pa.length = n ∧ pb.length = n ∧ pa.map (wt a) = pb.map (wt b) ∧ k ≤ a.length ∧ k ≤ b.length
theorem Sh.start (a b : List UInt8) : Sh a b 0 0 := ⟨[], [], rfl, rfl, rfl, rfl, rfl, by omega, by omega⟩
theorem wt_same {a b : List UInt8} {k : Nat} (ha : k < a.length) (hb : k < b.length) : wt a (readP a k) = wt b (readP b k) ↔ readP a k = readP b k ∧ ((readP a k).b = true → gb a k = gb b k) := by
  rw [wt_read, wt_read]
  have h1 := readP_at a k
  have h2 := readP_at b k
  have h3 := gb_lt a k
  have h4 := gb_lt b k
  have e1 := readP_cases ha
  have e2 := readP_cases hb
  generalize readP a k = p at *
  generalize readP b k = q at *
  obtain ⟨pa, pw, pr, pb⟩ := p
  obtain ⟨qa, qw, qr, qb⟩ := q
  simp only at *
  subst h1; subst h2
  simp only [Pc.mk.injEq]
  rcases e1 with ⟨rfl, rfl, rfl⟩ | ⟨rfl, rfl, h5⟩ <;> rcases e2 with ⟨rfl, rfl, rfl⟩ | ⟨rfl, rfl, h6⟩
  · simp
  · simp; omega
  · simp; omega
  · simp; intro h; rw [h]
theorem Sh.next {a b : List UInt8} {n k : Nat} (h : Sh a b n k) (ha : k < a.length) (hb : k < b.length) (hw : wt a (readP a k) = wt b (readP b k)) : Sh a b (n + 1) (k + (readP a k).w) := by
  obtain ⟨pa, pb, h1, h2, h3, h4, h5, h6, h7⟩ := h
  have he := ((wt_same ha hb).1 hw).1
  rw [from_cons ha] at h1
  rw [from_cons hb] at h2
  have w1 := readP_w ha
  have w2 := readP_w hb
  refine ⟨pa ++ [readP a k], pb ++ [readP b k], by simpa using h1, by rw [he]; simpa using h2, by simp [h3], by simp [h4], by simp [h5, hw], by omega, by rw [he]; omega⟩
theorem Sh.done {a b : List UInt8} {n k : Nat} (h : Sh a b n k) (hs : k = a.length ∨ k = b.length ∨ wt a (readP a k) ≠ wt b (readP b k)) :
    n = cm ((pieces a).map (wt a)) ((pieces b).map (wt b)) ∧ cmpL ((pieces a).map (wt a)) ((pieces b).map (wt b)) = if k = a.length ∧ k = b.length then 0 else if k = a.length then -1 else if k = b.length then 1 else if wt a (readP a k) < wt b (readP b k) then -1 else 1 := by
  obtain ⟨pa, pb, h1, h2, h3, h4, h5, h6, h7⟩ := h
  rw [h1, h2, List.map_append, List.map_append, ← h5, cm_pre, cmpL_pre, List.length_map, h3]
  rcases Nat.lt_or_eq_of_le h6 with ha | ha
  · rw [from_cons ha]
    rcases Nat.lt_or_eq_of_le h7 with hb | hb
    · rw [from_cons hb]
      have hne : wt a (readP a k) ≠ wt b (readP b k) := by omega
      simp only [List.map_cons, cm, cmpL, if_neg hne]
      refine ⟨by omega, ?_⟩
      simp [show ¬ k = a.length by omega, show ¬ k = b.length by omega]
    · rw [from_nil (l := b) (k := k) (by omega)]
      simp only [List.map_cons, List.map_nil, cm, cmpL]
      refine ⟨by omega, ?_⟩
      rw [if_neg (by omega), if_neg (by omega), if_pos hb]
  · rw [from_nil (l := a) (k := k) (by omega)]
    rcases Nat.lt_or_eq_of_le h7 with hb | hb
    · rw [from_cons hb]
      simp only [List.map_cons, List.map_nil, cm, cmpL]
      refine ⟨by omega, ?_⟩
      rw [if_neg (by omega), if_pos ha]
    · rw [from_nil (l := b) (k := k) (by omega)]
      simp only [List.map_nil, cm, cmpL]
      refine ⟨by omega, ?_⟩
      rw [if_pos ⟨ha, hb⟩]
/-- the place of a rune's first piece -/
def idx : List Pc → Int → Int
  | [], _ => -1
  | p :: ps, r => if (p.r : Int) = r ∧ p.b = false then (p.at_ : Int) else idx ps r
def noIdx (ps : List Pc) (r : Int) : Prop := ∀ p ∈ ps, ¬ ((p.r : Int) = r ∧ p.b = false)
end Go.Eng

/-
  Plain facts on the pieces of a text, fourth part: the boundaries as a row of numbers, and the ones next to a place. No condition.
-/
set_option linter.all false
namespace Go.Eng
open Go
set_option linter.all false
/-- the boundaries of a text -/
def endsOf (l : List UInt8) : List Nat := (pieces l).map Pc.at_ ++ [l.length]
def leOf (k : Nat) : List Nat → Nat → Nat
  | [], a => a
  | x :: xs, a => leOf k xs (if x ≤ k then x else a)
def geOf (k : Nat) : List Nat → Nat → Nat
  | [], a => a
  | x :: xs, a => if k ≤ x then x else geOf k xs a
end Go.Eng

/-
  Plain facts: pieces of a text's beginning; a text's pieces as texts; from the end on. No condition.
-/
set_option linter.all false
namespace Go.Eng
open Go
/-- a piece's bytes -/
def txt (l : List UInt8) (p : Pc) : List UInt8 := (l.take (p.at_ + p.w)).drop p.at_
theorem mem_w {l : List UInt8} {p : Pc} (h : p ∈ pieces l) : p.at_ < l.length ∧ 1 ≤ p.w ∧ p.w ≤ 4 ∧ p.at_ + p.w ≤ l.length := by
  obtain ⟨_, h2, h3⟩ := reach_of_mem h
  have := readP_w h2
  rw [← h3] at this
  omega
def mendOf (l w : List UInt8) (ps : List Pc) : List UInt8 := ps.flatMap fun p => if p.b then w else txt l p
def textsOf (l : List UInt8) (ps : List Pc) : List UInt8 := ps.flatMap (txt l)
/-- where the first so many pieces end -/
def cutK (l : List UInt8) (n : Int) : Nat := if n ≤ 0 then 0 else (endsOf l).getD n.toNat l.length
end Go.Eng

/-
  Plain facts: the pieces so far are the text's beginning; places within a form. No condition.
-/
set_option linter.all false
namespace Go.Eng
open Go
end Go.Eng

/-
  Plain facts on pieces: their order, and the pieces of a text's end. No condition.
-/
set_option linter.all false
namespace Go.Eng
open Go
theorem pc_broken {l : List UInt8} {p : Pc} (h : p ∈ pieces l) : p.b = true ↔ p.r = 65533 ∧ p.w = 1 := by
  obtain ⟨_, h2, h3⟩ := reach_of_mem h
  rw [h3]
  rcases readP_cases h2 with ⟨e1, e2, e3⟩ | ⟨e1, e2, e3⟩
  · rw [e1, e2, e3]; simp
  · rw [e1]
    constructor
    · intro h; cases h
    · rintro ⟨g1, g2⟩
      exfalso
      rw [g1] at e2
      have : wd 65533 = 3 := by decide
      omega
/-- a piece, told from further on -/
def Pc.sub (p : Pc) (n : Nat) : Pc := ⟨p.at_ - n, p.w, p.r, p.b⟩
end Go.Eng

/-
  Plain facts on kinds of runes, columns, and the clusters of a text. No condition.
-/
namespace Go.Eng
open Go
/-- letters, as the document has them -/
def Great (r : Nat) : Prop := (65 ≤ r ∧ r ≤ 90) ∨ (192 ≤ r ∧ r ≤ 222 ∧ r ≠ 215) ∨ ((256 ≤ r ∧ r ≤ 311 ∨ 330 ≤ r ∧ r ≤ 375) ∧ r % 2 = 0) ∨ (313 ≤ r ∧ r ≤ 328 ∧ r % 2 = 1) ∨ r = 376 ∨ (377 ≤ r ∧ r ≤ 381 ∧ r % 2 = 1) ∨
  (902 ≤ r ∧ r ≤ 911 ∧ r ≠ 903 ∧ r ≠ 907 ∧ r ≠ 909) ∨ (913 ≤ r ∧ r ≤ 939 ∧ r ≠ 930) ∨ (1024 ≤ r ∧ r ≤ 1071)
def Small (r : Nat) : Prop := (97 ≤ r ∧ r ≤ 122) ∨ (223 ≤ r ∧ r ≤ 255 ∧ r ≠ 247) ∨ ((256 ≤ r ∧ r ≤ 311 ∨ 330 ≤ r ∧ r ≤ 375) ∧ r % 2 = 1) ∨ (313 ≤ r ∧ r ≤ 328 ∧ r % 2 = 0) ∨ r = 312 ∨ r = 329 ∨ r = 383 ∨ r = 912 ∨ (378 ≤ r ∧ r ≤ 382 ∧ r % 2 = 0) ∨
  (940 ≤ r ∧ r ≤ 974) ∨ (1072 ≤ r ∧ r ≤ 1119)
instance (r : Nat) : Decidable (Great r) := by unfold Great; infer_instance
instance (r : Nat) : Decidable (Small r) := by unfold Small; infer_instance
def Blank (r : Nat) : Prop := r = 9 ∨ r = 32 ∨ r = 160 ∨ r = 8239 ∨ r = 8287 ∨ r = 12288 ∨ (8192 ≤ r ∧ r ≤ 8202)
def Dash (r : Nat) : Prop := r = 45 ∨ (8208 ≤ r ∧ r ≤ 8213)
def Quote (r : Nat) : Prop := r = 34 ∨ r = 39 ∨ r = 171 ∨ r = 187 ∨ r = 8249 ∨ r = 8250 ∨ (8216 ≤ r ∧ r ≤ 8223)
def Point (r : Nat) : Prop := r = 33 ∨ r = 44 ∨ r = 46 ∨ r = 58 ∨ r = 59 ∨ r = 63 ∨ r = 161 ∨ r = 183 ∨ r = 191 ∨ r = 8230
def Ctl (r : Nat) : Prop := r < 32 ∨ (127 ≤ r ∧ r ≤ 159) ∨ (8203 ≤ r ∧ r ≤ 8207) ∨ r = 65279
instance (r : Nat) : Decidable (Blank r) := by unfold Blank; infer_instance
instance (r : Nat) : Decidable (Dash r) := by unfold Dash; infer_instance
instance (r : Nat) : Decidable (Quote r) := by unfold Quote; infer_instance
instance (r : Nat) : Decidable (Point r) := by unfold Point; infer_instance
instance (r : Nat) : Decidable (Ctl r) := by unfold Ctl; infer_instance
/-- a rune's kind -/
def kindN (r : Nat) : Nat :=
  if Great r ∨ Small r then 1 else if 768 ≤ r ∧ r ≤ 879 then 2 else if 48 ≤ r ∧ r ≤ 57 then 3 else if r = 10 ∨ r = 13 then 4
  else if Blank r then 5 else if Dash r then 6 else if Quote r then 7 else if Point r then 8 else if Ctl r then 9 else 10
/-- a piece's kind -/
def kindP (p : Pc) : Nat := if p.b then 11 else kindN p.r
def Wide (r : Nat) : Prop := (4352 ≤ r ∧ r ≤ 4447) ∨ (11904 ≤ r ∧ r ≤ 12350) ∨ (12353 ≤ r ∧ r ≤ 19903) ∨ (19968 ≤ r ∧ r ≤ 42191) ∨ (44032 ≤ r ∧ r ≤ 55203) ∨ (63744 ≤ r ∧ r ≤ 64255) ∨ (65072 ≤ r ∧ r ≤ 65135) ∨ (65280 ≤ r ∧ r ≤ 65376) ∨ (65504 ≤ r ∧ r ≤ 65510) ∨
  (127744 ≤ r ∧ r ≤ 128591) ∨ (129280 ≤ r ∧ r ≤ 129535) ∨ (131072 ≤ r ∧ r ≤ 262141)
instance (r : Nat) : Decidable (Wide r) := by unfold Wide; infer_instance
/-- a piece's columns -/
def colP (p : Pc) : Nat := if kindP p = 11 then 1 else if kindP p = 2 ∨ kindP p = 4 ∨ kindP p = 9 then 0 else if Wide p.r then 2 else 1
/-- a cluster -/
structure Cl where
  a : Nat
  z : Nat
  c : Nat
  deriving DecidableEq
def Cl.cs (c : Cl) : List Value := [.int .i64 (c.a : Int), .int .i64 (c.z : Int), .int .i64 (c.c : Int)]
def Cl.v (c : Cl) : Value := .agg c.cs.toArray
/-- is a piece taken by a cluster whose head is of a kind, behind another piece? -/
def Joins (h : Nat) (q p : Pc) : Prop := p.b = false ∧ (kindP p = 2 ∨ p.r = 8205 ∨ (h = 10 ∧ kindP p = 10 ∧ q.r = 8205))
def Glue (h : Nat) (q p : Pc) : Prop := (q.r = 13 ∧ p.r = 10) ∨ ((h ≠ 11 ∧ h ≠ 4 ∧ h ≠ 9) ∧ Joins h q p)
instance (h : Nat) (q p : Pc) : Decidable (Joins h q p) := by unfold Joins; infer_instance
instance (h : Nat) (q p : Pc) : Decidable (Glue h q p) := by unfold Glue; infer_instance
def Cl.ext (c : Cl) (p : Pc) : Cl := ⟨c.a, p.at_ + p.w, max c.c (colP p)⟩
def headC (p : Pc) : Cl := ⟨p.at_, p.at_ + p.w, colP p⟩
/-- the clusters of pieces, behind a cluster that is open -/
def clGo : Option (Cl × Nat × Pc) → List Pc → List Cl
  | none, [] => []
  | some s, [] => [s.1]
  | none, p :: ps => clGo (some (headC p, kindP p, p)) ps
  | some s, p :: ps => if Glue s.2.1 s.2.2 p then clGo (some (s.1.ext p, s.2.1, p)) ps else s.1 :: clGo (some (headC p, kindP p, p)) ps
def clusters (l : List UInt8) : List Cl := clGo none (pieces l)
theorem kindN_le (r : Nat) : 1 ≤ kindN r ∧ kindN r ≤ 10 := by unfold kindN; (repeat' split) <;> omega
theorem kind_letter {r : Nat} (h : Great r ∨ Small r) : kindN r = 1 := if_pos h
theorem kind_spec {r : Nat} (h : ¬ (Great r ∨ Small r)) : (768 ≤ r ∧ r ≤ 879 ∧ kindN r = 2) ∨ (48 ≤ r ∧ r ≤ 57 ∧ kindN r = 3) ∨ ((r = 10 ∨ r = 13) ∧ kindN r = 4) ∨ (Blank r ∧ kindN r = 5) ∨ (Dash r ∧ kindN r = 6) ∨ (Quote r ∧ kindN r = 7) ∨ (Point r ∧ kindN r = 8) ∨ (Ctl r ∧ r ≠ 9 ∧ r ≠ 10 ∧ r ≠ 13 ∧ kindN r = 9) ∨
    (¬ (768 ≤ r ∧ r ≤ 879) ∧ ¬ (48 ≤ r ∧ r ≤ 57) ∧ ¬ (r = 10 ∨ r = 13) ∧ ¬ Blank r ∧ ¬ Dash r ∧ ¬ Quote r ∧ ¬ Point r ∧ ¬ Ctl r ∧ kindN r = 10) := by
  unfold kindN
  rw [if_neg h]
  by_cases h2 : 768 ≤ r ∧ r ≤ 879
  · rw [if_pos h2]; exact .inl ⟨h2.1, h2.2, rfl⟩
  rw [if_neg h2]
  by_cases h3 : 48 ≤ r ∧ r ≤ 57
  · rw [if_pos h3]; exact .inr (.inl ⟨h3.1, h3.2, rfl⟩)
  rw [if_neg h3]
  by_cases h4 : r = 10 ∨ r = 13
  · rw [if_pos h4]; exact .inr (.inr (.inl ⟨h4, rfl⟩))
  rw [if_neg h4]
  by_cases h5 : Blank r
  · rw [if_pos h5]; exact .inr (.inr (.inr (.inl ⟨h5, rfl⟩)))
  rw [if_neg h5]
  by_cases h6 : Dash r
  · rw [if_pos h6]; exact .inr (.inr (.inr (.inr (.inl ⟨h6, rfl⟩))))
  rw [if_neg h6]
  by_cases h7 : Quote r
  · rw [if_pos h7]; exact .inr (.inr (.inr (.inr (.inr (.inl ⟨h7, rfl⟩)))))
  rw [if_neg h7]
  by_cases h8 : Point r
  · rw [if_pos h8]; exact .inr (.inr (.inr (.inr (.inr (.inr (.inl ⟨h8, rfl⟩))))))
  rw [if_neg h8]
  by_cases h9 : Ctl r
  · rw [if_pos h9]; exact .inr (.inr (.inr (.inr (.inr (.inr (.inr (.inl ⟨h9, fun e => h5 (.inl e), fun e => h4 (.inl e), fun e => h4 (.inr e), rfl⟩)))))))
  rw [if_neg h9]
  exact .inr (.inr (.inr (.inr (.inr (.inr (.inr (.inr ⟨h2, h3, h4, h5, h6, h7, h8, h9, rfl⟩)))))))
theorem kind_lf : kindN 10 = 4 := by decide
theorem kindP_b {p : Pc} (h : p.b = true) : kindP p = 11 := by unfold kindP; rw [if_pos h]
theorem kindP_r {p : Pc} (h : p.b = false) : kindP p = kindN p.r := by unfold kindP; rw [h]; rfl
theorem colP_le (p : Pc) : colP p ≤ 2 := by unfold colP; (repeat' split) <;> omega
/-- how many pieces a cluster takes behind its head -/
def runC : Nat → Pc → List Pc → Nat
  | _, _, [] => 0
  | h, q, p :: ps => if Glue h q p then runC h p ps + 1 else 0
theorem clGo_none (p : Pc) (ps : List Pc) : clGo none (p :: ps) = clGo (some (headC p, kindP p, p)) ps := rfl
theorem clGo_glue {c : Cl} {h : Nat} {q p : Pc} {ps : List Pc} (hg : Glue h q p) : clGo (some (c, h, q)) (p :: ps) = clGo (some (c.ext p, h, p)) ps := if_pos hg
theorem clGo_free {c : Cl} {h : Nat} {q p : Pc} {ps : List Pc} (hg : ¬ Glue h q p) : clGo (some (c, h, q)) (p :: ps) = c :: clGo (some (headC p, kindP p, p)) ps := if_neg hg
end Go.Eng

/-
  The walks of package class: kinds of runes. No condition.
-/
namespace Go.Proofs.Ytpghpbknjdnkkaa
open Go Go.Eng
set_option maxRecDepth 100000
set_option maxHeartbeats 4000000
set_option linter.all false
attribute [local irreducible] WL WC WQ QFun QLoop Does Q1 QRound QAssign Go.Addr.add
attribute [local irreducible] Great Small Blank Dash Quote Point Ctl Wide kindN
theorem sq_C1_1 {G : Prop} (h : G := by (repeat (first | (refine sp ?_; (repeat intro zzc)) | (refine WL.and32 rfl rfl rfl (by omega) ?_))); exact WQ.q1 rfl) : G := h
theorem st_C1_1 {G G' : Prop} (next : G') (h : Bx G' → G := by intro zzn; (first | ((refine st ?_; (repeat intro zzc)); (try ((first | (refine WL.and32 rfl rfl rfl (by omega) ?_) | ((refine iDraw ?_; (first | refine WC.drawAll rfl (by decide +kernel) ?_ | refine WC.draw 1 rfl (by decide +kernel) ?_ | refine WC.draw 2 rfl (by decide +kernel) ?_ | refine WC.draw 3 rfl (by decide +kernel) ?_ | refine WC.draw 4 rfl (by decide +kernel) ?_ | refine WC.draw 5 rfl (by decide +kernel) ?_ | refine WC.draw 6 rfl (by decide +kernel) ?_ | refine WC.draw 7 rfl (by decide +kernel) ?_ | refine WC.draw 8 rfl (by decide +kernel) ?_ | refine WC.draw 9 rfl (by decide +kernel) ?_ | refine WC.draw 10 rfl (by decide +kernel) ?_ | refine WC.draw 11 rfl (by decide +kernel) ?_ | refine WC.draw 12 rfl (by decide +kernel) ?_ | refine WC.draw 13 rfl (by decide +kernel) ?_ | refine WC.draw 14 rfl (by decide +kernel) ?_ | refine WC.draw 15 rfl (by decide +kernel) ?_ | refine WC.draw 16 rfl (by decide +kernel) ?_ | refine WC.draw 17 rfl (by decide +kernel) ?_ | refine WC.draw 18 rfl (by decide +kernel) ?_ | refine WC.draw 19 rfl (by decide +kernel) ?_ | refine WC.draw 20 rfl (by decide +kernel) ?_ | refine WC.draw 21 rfl (by decide +kernel) ?_ | refine WC.draw 22 rfl (by decide +kernel) ?_ | refine WC.draw 23 rfl (by decide +kernel) ?_ | refine WC.draw 24 rfl (by decide +kernel) ?_)); (repeat (refine WD.cons rfl (fun c h => by cases h) sq_C1_1 ?_)); refine WD.nil ?_)); (try (refine st ?_; (repeat intro zzc)))))) | ((first | (refine WL.and32 rfl rfl rfl (by omega) ?_) | ((refine iDraw ?_; (first | refine WC.drawAll rfl (by decide +kernel) ?_ | refine WC.draw 1 rfl (by decide +kernel) ?_ | refine WC.draw 2 rfl (by decide +kernel) ?_ | refine WC.draw 3 rfl (by decide +kernel) ?_ | refine WC.draw 4 rfl (by decide +kernel) ?_ | refine WC.draw 5 rfl (by decide +kernel) ?_ | refine WC.draw 6 rfl (by decide +kernel) ?_ | refine WC.draw 7 rfl (by decide +kernel) ?_ | refine WC.draw 8 rfl (by decide +kernel) ?_ | refine WC.draw 9 rfl (by decide +kernel) ?_ | refine WC.draw 10 rfl (by decide +kernel) ?_ | refine WC.draw 11 rfl (by decide +kernel) ?_ | refine WC.draw 12 rfl (by decide +kernel) ?_ | refine WC.draw 13 rfl (by decide +kernel) ?_ | refine WC.draw 14 rfl (by decide +kernel) ?_ | refine WC.draw 15 rfl (by decide +kernel) ?_ | refine WC.draw 16 rfl (by decide +kernel) ?_ | refine WC.draw 17 rfl (by decide +kernel) ?_ | refine WC.draw 18 rfl (by decide +kernel) ?_ | refine WC.draw 19 rfl (by decide +kernel) ?_ | refine WC.draw 20 rfl (by decide +kernel) ?_ | refine WC.draw 21 rfl (by decide +kernel) ?_ | refine WC.draw 22 rfl (by decide +kernel) ?_ | refine WC.draw 23 rfl (by decide +kernel) ?_ | refine WC.draw 24 rfl (by decide +kernel) ?_)); (repeat (refine WD.cons rfl (fun c h => by cases h) sq_C1_1 ?_)); refine WD.nil ?_)); (try (refine st ?_; (repeat intro zzc))))); (repeat ((first | (refine WL.and32 rfl rfl rfl (by omega) ?_) | ((refine iDraw ?_; (first | refine WC.drawAll rfl (by decide +kernel) ?_ | refine WC.draw 1 rfl (by decide +kernel) ?_ | refine WC.draw 2 rfl (by decide +kernel) ?_ | refine WC.draw 3 rfl (by decide +kernel) ?_ | refine WC.draw 4 rfl (by decide +kernel) ?_ | refine WC.draw 5 rfl (by decide +kernel) ?_ | refine WC.draw 6 rfl (by decide +kernel) ?_ | refine WC.draw 7 rfl (by decide +kernel) ?_ | refine WC.draw 8 rfl (by decide +kernel) ?_ | refine WC.draw 9 rfl (by decide +kernel) ?_ | refine WC.draw 10 rfl (by decide +kernel) ?_ | refine WC.draw 11 rfl (by decide +kernel) ?_ | refine WC.draw 12 rfl (by decide +kernel) ?_ | refine WC.draw 13 rfl (by decide +kernel) ?_ | refine WC.draw 14 rfl (by decide +kernel) ?_ | refine WC.draw 15 rfl (by decide +kernel) ?_ | refine WC.draw 16 rfl (by decide +kernel) ?_ | refine WC.draw 17 rfl (by decide +kernel) ?_ | refine WC.draw 18 rfl (by decide +kernel) ?_ | refine WC.draw 19 rfl (by decide +kernel) ?_ | refine WC.draw 20 rfl (by decide +kernel) ?_ | refine WC.draw 21 rfl (by decide +kernel) ?_ | refine WC.draw 22 rfl (by decide +kernel) ?_ | refine WC.draw 23 rfl (by decide +kernel) ?_ | refine WC.draw 24 rfl (by decide +kernel) ?_)); (repeat (refine WD.cons rfl (fun c h => by cases h) sq_C1_1 ?_)); refine WD.nil ?_)); (try (refine st ?_; (repeat intro zzc))))); (repeat revert zzc); exact zzn.out) : G := h ⟨next⟩
theorem even_any (r : Nat) (hr : r ≤ 1114111) (w0 : World) (m : Mem) (H : SHeap) : Does Try.prog 87 #[.int .i32 (r : Int)] w0 m H (Gives (.bool (dcd (r % 2 = 0))) m H) := by
  refine Does.of_body (args := [.int .i32 (r : Int)]) Try.func87 rfl Try.ntmps87 rfl ?_
  (try (refine st_C1_1 ?_; intros))
  (refine q_fin0 ?_)
  exact Gives.mk (congrArg _ (dcd_cong (by omega)))
theorem sq_C1_2 {G : Prop} (h : G := by (repeat (first | (refine sp ?_; (repeat intro zzc)) | (refine WL.and32 rfl rfl rfl (by omega) ?_) | (refine iF 87 rfl ?_; refine w_callG Try.func87 ?_ (hs := even_any _ (by omega) _ _ _)))); exact WQ.q1 rfl) : G := h
theorem st_C1_2 {G G' : Prop} (next : G') (h : Bx G' → G := by intro zzn; (first | ((refine st ?_; (repeat intro zzc)); (try ((first | (refine WL.and32 rfl rfl rfl (by omega) ?_) | (refine iF 87 rfl ?_; refine w_callG Try.func87 ?_ (hs := even_any _ (by omega) _ _ _)) | ((refine iDraw ?_; (first | refine WC.drawAll rfl (by decide +kernel) ?_ | refine WC.draw 1 rfl (by decide +kernel) ?_ | refine WC.draw 2 rfl (by decide +kernel) ?_ | refine WC.draw 3 rfl (by decide +kernel) ?_ | refine WC.draw 4 rfl (by decide +kernel) ?_ | refine WC.draw 5 rfl (by decide +kernel) ?_ | refine WC.draw 6 rfl (by decide +kernel) ?_ | refine WC.draw 7 rfl (by decide +kernel) ?_ | refine WC.draw 8 rfl (by decide +kernel) ?_ | refine WC.draw 9 rfl (by decide +kernel) ?_ | refine WC.draw 10 rfl (by decide +kernel) ?_ | refine WC.draw 11 rfl (by decide +kernel) ?_ | refine WC.draw 12 rfl (by decide +kernel) ?_ | refine WC.draw 13 rfl (by decide +kernel) ?_ | refine WC.draw 14 rfl (by decide +kernel) ?_ | refine WC.draw 15 rfl (by decide +kernel) ?_ | refine WC.draw 16 rfl (by decide +kernel) ?_ | refine WC.draw 17 rfl (by decide +kernel) ?_ | refine WC.draw 18 rfl (by decide +kernel) ?_ | refine WC.draw 19 rfl (by decide +kernel) ?_ | refine WC.draw 20 rfl (by decide +kernel) ?_ | refine WC.draw 21 rfl (by decide +kernel) ?_ | refine WC.draw 22 rfl (by decide +kernel) ?_ | refine WC.draw 23 rfl (by decide +kernel) ?_ | refine WC.draw 24 rfl (by decide +kernel) ?_)); (repeat (refine WD.cons rfl (fun c h => by cases h) sq_C1_2 ?_)); refine WD.nil ?_)); (try (refine st ?_; (repeat intro zzc)))))) | ((first | (refine WL.and32 rfl rfl rfl (by omega) ?_) | (refine iF 87 rfl ?_; refine w_callG Try.func87 ?_ (hs := even_any _ (by omega) _ _ _)) | ((refine iDraw ?_; (first | refine WC.drawAll rfl (by decide +kernel) ?_ | refine WC.draw 1 rfl (by decide +kernel) ?_ | refine WC.draw 2 rfl (by decide +kernel) ?_ | refine WC.draw 3 rfl (by decide +kernel) ?_ | refine WC.draw 4 rfl (by decide +kernel) ?_ | refine WC.draw 5 rfl (by decide +kernel) ?_ | refine WC.draw 6 rfl (by decide +kernel) ?_ | refine WC.draw 7 rfl (by decide +kernel) ?_ | refine WC.draw 8 rfl (by decide +kernel) ?_ | refine WC.draw 9 rfl (by decide +kernel) ?_ | refine WC.draw 10 rfl (by decide +kernel) ?_ | refine WC.draw 11 rfl (by decide +kernel) ?_ | refine WC.draw 12 rfl (by decide +kernel) ?_ | refine WC.draw 13 rfl (by decide +kernel) ?_ | refine WC.draw 14 rfl (by decide +kernel) ?_ | refine WC.draw 15 rfl (by decide +kernel) ?_ | refine WC.draw 16 rfl (by decide +kernel) ?_ | refine WC.draw 17 rfl (by decide +kernel) ?_ | refine WC.draw 18 rfl (by decide +kernel) ?_ | refine WC.draw 19 rfl (by decide +kernel) ?_ | refine WC.draw 20 rfl (by decide +kernel) ?_ | refine WC.draw 21 rfl (by decide +kernel) ?_ | refine WC.draw 22 rfl (by decide +kernel) ?_ | refine WC.draw 23 rfl (by decide +kernel) ?_ | refine WC.draw 24 rfl (by decide +kernel) ?_)); (repeat (refine WD.cons rfl (fun c h => by cases h) sq_C1_2 ?_)); refine WD.nil ?_)); (try (refine st ?_; (repeat intro zzc))))); (repeat ((first | (refine WL.and32 rfl rfl rfl (by omega) ?_) | (refine iF 87 rfl ?_; refine w_callG Try.func87 ?_ (hs := even_any _ (by omega) _ _ _)) | ((refine iDraw ?_; (first | refine WC.drawAll rfl (by decide +kernel) ?_ | refine WC.draw 1 rfl (by decide +kernel) ?_ | refine WC.draw 2 rfl (by decide +kernel) ?_ | refine WC.draw 3 rfl (by decide +kernel) ?_ | refine WC.draw 4 rfl (by decide +kernel) ?_ | refine WC.draw 5 rfl (by decide +kernel) ?_ | refine WC.draw 6 rfl (by decide +kernel) ?_ | refine WC.draw 7 rfl (by decide +kernel) ?_ | refine WC.draw 8 rfl (by decide +kernel) ?_ | refine WC.draw 9 rfl (by decide +kernel) ?_ | refine WC.draw 10 rfl (by decide +kernel) ?_ | refine WC.draw 11 rfl (by decide +kernel) ?_ | refine WC.draw 12 rfl (by decide +kernel) ?_ | refine WC.draw 13 rfl (by decide +kernel) ?_ | refine WC.draw 14 rfl (by decide +kernel) ?_ | refine WC.draw 15 rfl (by decide +kernel) ?_ | refine WC.draw 16 rfl (by decide +kernel) ?_ | refine WC.draw 17 rfl (by decide +kernel) ?_ | refine WC.draw 18 rfl (by decide +kernel) ?_ | refine WC.draw 19 rfl (by decide +kernel) ?_ | refine WC.draw 20 rfl (by decide +kernel) ?_ | refine WC.draw 21 rfl (by decide +kernel) ?_ | refine WC.draw 22 rfl (by decide +kernel) ?_ | refine WC.draw 23 rfl (by decide +kernel) ?_ | refine WC.draw 24 rfl (by decide +kernel) ?_)); (repeat (refine WD.cons rfl (fun c h => by cases h) sq_C1_2 ?_)); refine WD.nil ?_)); (try (refine st ?_; (repeat intro zzc))))); (repeat revert zzc); exact zzn.out) : G := h ⟨next⟩
theorem great_any (r : Nat) (hr : r ≤ 1114111) (w0 : World) (m : Mem) (H : SHeap) : Does Try.prog 85 #[.int .i32 (r : Int)] w0 m H (Gives (.bool (dcd (Great r))) m H) := by
  refine Does.of_body (args := [.int .i32 (r : Int)]) Try.func85 rfl Try.ntmps85 rfl ?_
  (repeat' (first | (refine st_C1_2 ?_; intros) | (first | refine c_ways (fun h1 => ?_) (fun h1 => ?_) | refine c_nways (fun h1 => ?_) (fun h1 => ?_) | refine w_gways (fun h1 => ?_) (fun h1 => ?_) | refine w_gnways (fun h1 => ?_) (fun h1 => ?_))))
  all_goals ((refine q_fin0 ?_); refine Gives.mk (congrArg _ ?_))
  all_goals first | (refine tru_iff ?_; unfold Great; omega) | (refine fls_iff ?_; unfold Great; omega) | (refine dcd_cong ?_; unfold Great; omega) | (rw [dcd_not]; refine dcd_cong ?_; unfold Great; omega)
theorem small_any (r : Nat) (hr : r ≤ 1114111) (w0 : World) (m : Mem) (H : SHeap) : Does Try.prog 86 #[.int .i32 (r : Int)] w0 m H (Gives (.bool (dcd (Small r))) m H) := by
  refine Does.of_body (args := [.int .i32 (r : Int)]) Try.func86 rfl Try.ntmps86 rfl ?_
  (repeat' (first | (refine st_C1_2 ?_; intros) | (first | refine c_ways (fun h1 => ?_) (fun h1 => ?_) | refine c_nways (fun h1 => ?_) (fun h1 => ?_) | refine w_gways (fun h1 => ?_) (fun h1 => ?_) | refine w_gnways (fun h1 => ?_) (fun h1 => ?_))))
  all_goals ((refine q_fin0 ?_); refine Gives.mk (congrArg _ ?_))
  all_goals first | (refine tru_iff ?_; unfold Small; omega) | (refine fls_iff ?_; unfold Small; omega) | (refine dcd_cong ?_; unfold Small; omega) | (rw [dcd_not]; refine dcd_cong ?_; unfold Small; omega)
theorem sq_C1_3 {G : Prop} (h : G := by (repeat (first | (refine sp ?_; (repeat intro zzc)) | (refine WL.and32 rfl rfl rfl (by omega) ?_) | (refine iF 87 rfl ?_; refine w_callG Try.func87 ?_ (hs := even_any _ (by omega) _ _ _)) | (refine iF 85 rfl ?_; refine w_callG Try.func85 ?_ (hs := great_any _ (by omega) _ _ _)) | (refine iF 86 rfl ?_; refine w_callG Try.func86 ?_ (hs := small_any _ (by omega) _ _ _)))); exact WQ.q1 rfl) : G := h
theorem st_C1_3 {G G' : Prop} (next : G') (h : Bx G' → G := by intro zzn; (first | ((refine st ?_; (repeat intro zzc)); (try ((first | (refine WL.and32 rfl rfl rfl (by omega) ?_) | (refine iF 87 rfl ?_; refine w_callG Try.func87 ?_ (hs := even_any _ (by omega) _ _ _)) | (refine iF 85 rfl ?_; refine w_callG Try.func85 ?_ (hs := great_any _ (by omega) _ _ _)) | (refine iF 86 rfl ?_; refine w_callG Try.func86 ?_ (hs := small_any _ (by omega) _ _ _)) | ((refine iDraw ?_; (first | refine WC.drawAll rfl (by decide +kernel) ?_ | refine WC.draw 1 rfl (by decide +kernel) ?_ | refine WC.draw 2 rfl (by decide +kernel) ?_ | refine WC.draw 3 rfl (by decide +kernel) ?_ | refine WC.draw 4 rfl (by decide +kernel) ?_ | refine WC.draw 5 rfl (by decide +kernel) ?_ | refine WC.draw 6 rfl (by decide +kernel) ?_ | refine WC.draw 7 rfl (by decide +kernel) ?_ | refine WC.draw 8 rfl (by decide +kernel) ?_ | refine WC.draw 9 rfl (by decide +kernel) ?_ | refine WC.draw 10 rfl (by decide +kernel) ?_ | refine WC.draw 11 rfl (by decide +kernel) ?_ | refine WC.draw 12 rfl (by decide +kernel) ?_ | refine WC.draw 13 rfl (by decide +kernel) ?_ | refine WC.draw 14 rfl (by decide +kernel) ?_ | refine WC.draw 15 rfl (by decide +kernel) ?_ | refine WC.draw 16 rfl (by decide +kernel) ?_ | refine WC.draw 17 rfl (by decide +kernel) ?_ | refine WC.draw 18 rfl (by decide +kernel) ?_ | refine WC.draw 19 rfl (by decide +kernel) ?_ | refine WC.draw 20 rfl (by decide +kernel) ?_ | refine WC.draw 21 rfl (by decide +kernel) ?_ | refine WC.draw 22 rfl (by decide +kernel) ?_ | refine WC.draw 23 rfl (by decide +kernel) ?_ | refine WC.draw 24 rfl (by decide +kernel) ?_)); (repeat (refine WD.cons rfl (fun c h => by cases h) sq_C1_3 ?_)); refine WD.nil ?_)); (try (refine st ?_; (repeat intro zzc)))))) | ((first | (refine WL.and32 rfl rfl rfl (by omega) ?_) | (refine iF 87 rfl ?_; refine w_callG Try.func87 ?_ (hs := even_any _ (by omega) _ _ _)) | (refine iF 85 rfl ?_; refine w_callG Try.func85 ?_ (hs := great_any _ (by omega) _ _ _)) | (refine iF 86 rfl ?_; refine w_callG Try.func86 ?_ (hs := small_any _ (by omega) _ _ _)) | ((refine iDraw ?_; (first | refine WC.drawAll rfl (by decide +kernel) ?_ | refine WC.draw 1 rfl (by decide +kernel) ?_ | refine WC.draw 2 rfl (by decide +kernel) ?_ | refine WC.draw 3 rfl (by decide +kernel) ?_ | refine WC.draw 4 rfl (by decide +kernel) ?_ | refine WC.draw 5 rfl (by decide +kernel) ?_ | refine WC.draw 6 rfl (by decide +kernel) ?_ | refine WC.draw 7 rfl (by decide +kernel) ?_ | refine WC.draw 8 rfl (by decide +kernel) ?_ | refine WC.draw 9 rfl (by decide +kernel) ?_ | refine WC.draw 10 rfl (by decide +kernel) ?_ | refine WC.draw 11 rfl (by decide +kernel) ?_ | refine WC.draw 12 rfl (by decide +kernel) ?_ | refine WC.draw 13 rfl (by decide +kernel) ?_ | refine WC.draw 14 rfl (by decide +kernel) ?_ | refine WC.draw 15 rfl (by decide +kernel) ?_ | refine WC.draw 16 rfl (by decide +kernel) ?_ | refine WC.draw 17 rfl (by decide +kernel) ?_ | refine WC.draw 18 rfl (by decide +kernel) ?_ | refine WC.draw 19 rfl (by decide +kernel) ?_ | refine WC.draw 20 rfl (by decide +kernel) ?_ | refine WC.draw 21 rfl (by decide +kernel) ?_ | refine WC.draw 22 rfl (by decide +kernel) ?_ | refine WC.draw 23 rfl (by decide +kernel) ?_ | refine WC.draw 24 rfl (by decide +kernel) ?_)); (repeat (refine WD.cons rfl (fun c h => by cases h) sq_C1_3 ?_)); refine WD.nil ?_)); (try (refine st ?_; (repeat intro zzc))))); (repeat ((first | (refine WL.and32 rfl rfl rfl (by omega) ?_) | (refine iF 87 rfl ?_; refine w_callG Try.func87 ?_ (hs := even_any _ (by omega) _ _ _)) | (refine iF 85 rfl ?_; refine w_callG Try.func85 ?_ (hs := great_any _ (by omega) _ _ _)) | (refine iF 86 rfl ?_; refine w_callG Try.func86 ?_ (hs := small_any _ (by omega) _ _ _)) | ((refine iDraw ?_; (first | refine WC.drawAll rfl (by decide +kernel) ?_ | refine WC.draw 1 rfl (by decide +kernel) ?_ | refine WC.draw 2 rfl (by decide +kernel) ?_ | refine WC.draw 3 rfl (by decide +kernel) ?_ | refine WC.draw 4 rfl (by decide +kernel) ?_ | refine WC.draw 5 rfl (by decide +kernel) ?_ | refine WC.draw 6 rfl (by decide +kernel) ?_ | refine WC.draw 7 rfl (by decide +kernel) ?_ | refine WC.draw 8 rfl (by decide +kernel) ?_ | refine WC.draw 9 rfl (by decide +kernel) ?_ | refine WC.draw 10 rfl (by decide +kernel) ?_ | refine WC.draw 11 rfl (by decide +kernel) ?_ | refine WC.draw 12 rfl (by decide +kernel) ?_ | refine WC.draw 13 rfl (by decide +kernel) ?_ | refine WC.draw 14 rfl (by decide +kernel) ?_ | refine WC.draw 15 rfl (by decide +kernel) ?_ | refine WC.draw 16 rfl (by decide +kernel) ?_ | refine WC.draw 17 rfl (by decide +kernel) ?_ | refine WC.draw 18 rfl (by decide +kernel) ?_ | refine WC.draw 19 rfl (by decide +kernel) ?_ | refine WC.draw 20 rfl (by decide +kernel) ?_ | refine WC.draw 21 rfl (by decide +kernel) ?_ | refine WC.draw 22 rfl (by decide +kernel) ?_ | refine WC.draw 23 rfl (by decide +kernel) ?_ | refine WC.draw 24 rfl (by decide +kernel) ?_)); (repeat (refine WD.cons rfl (fun c h => by cases h) sq_C1_3 ?_)); refine WD.nil ?_)); (try (refine st ?_; (repeat intro zzc))))); (repeat revert zzc); exact zzn.out) : G := h ⟨next⟩
theorem letter_any (r : Nat) (hr : r ≤ 1114111) (w0 : World) (m : Mem) (H : SHeap) : Does Try.prog 77 #[.int .i32 (r : Int)] w0 m H (Gives (.bool (dcd (Great r ∨ Small r))) m H) := by
  refine Does.of_body (args := [.int .i32 (r : Int)]) Try.func77 rfl Try.ntmps77 rfl ?_
  by_cases h : Great r
  · (try (refine st_C1_3 ?_; intros))
    (refine q_fin0 ?_)
    exact Gives.mk (congrArg _ (tru_iff (.inl h)))
  · (try (refine st_C1_3 ?_; intros))
    (refine q_fin0 ?_)
    exact Gives.mk (congrArg _ (dcd_cong (by simp [h])))
theorem mark_any (r : Nat) (hr : r ≤ 1114111) (w0 : World) (m : Mem) (H : SHeap) : Does Try.prog 78 #[.int .i32 (r : Int)] w0 m H (Gives (.bool (dcd (768 ≤ r ∧ r ≤ 879))) m H) := by
  refine Does.of_body (args := [.int .i32 (r : Int)]) Try.func78 rfl Try.ntmps78 rfl ?_
  (repeat' (first | (refine st_C1_3 ?_; intros) | (first | refine c_ways (fun h1 => ?_) (fun h1 => ?_) | refine c_nways (fun h1 => ?_) (fun h1 => ?_) | refine w_gways (fun h1 => ?_) (fun h1 => ?_) | refine w_gnways (fun h1 => ?_) (fun h1 => ?_))))
  all_goals ((refine q_fin0 ?_); refine Gives.mk (congrArg _ ?_))
  all_goals first | (refine tru_iff ?_; omega) | (refine fls_iff ?_; omega) | (refine dcd_cong ?_; omega)
end Go.Proofs.Ytpghpbknjdnkkaa

