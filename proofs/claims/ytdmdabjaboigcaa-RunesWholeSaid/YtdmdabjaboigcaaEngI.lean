/-
  A walk's engine, ninth part: a region that draws the order of its operations: what only reads may come in whatever order; what comes behind all of it comes in the order of the text. No condition.
-/
import Derived.Test.YtdmdabjaboigcaaEngH
import Derived.OrdersIn
set_option linter.all false
namespace Go.Eng
open Go Go.RowKit

def bind1 (e : Edge) : Bool := Region.binds .any e
def maskOf (o : Oper) (M : List Nat) : Nat := o.after.toList.foldl (fun b e => bif bind1 e then b ||| (1 <<< e.on) ||| M.getD e.on 0 else b) 0
def masks : List Oper → List Nat → List Nat
  | [], acc => acc
  | o :: rest, acc => masks rest (acc ++ [maskOf o acc])
/-- the operations up to g only read and may come in any order; those from g on wait for all that stand ahead of them -/
def drawB (l : List Oper) (g : Nat) : Bool :=
  let M := masks l []
  Nat.ble g l.length && Nat.beq M.length l.length &&
  (l.zipIdx.all fun p => p.1.after.all fun e => !bind1 e || Nat.blt e.on p.2) &&
  (M.zipIdx.all fun p => match l[p.2]? with | some o => Nat.beq (p.1 &&& maskOf o M) p.1 | none => false) &&
  (M.zipIdx.all fun p => Nat.blt p.2 g || Nat.beq (p.1 &&& (2 ^ p.2 - 1)) (2 ^ p.2 - 1)) &&
  ((l.take g).zipIdx.all fun p => p.1.dst.isSome && ((l.take g).zipIdx.all fun q => Nat.beq p.2 q.2 || (p.1.dst != q.1.dst))) &&
  ((l.take g).zipIdx.all fun p => (p.1.looksAt l.toArray).all fun t => (l.take g).zipIdx.all fun q => q.1.dst != some t || (Nat.blt q.2 p.2 && (p.1.after.any fun e => bind1 e && Nat.beq e.on q.2)) || (Nat.blt p.2 q.2 && (M.getD q.2 0).testBit p.2))
def Env.sel (ts : List Nat) (r : Env) : Env := ts.filterMap fun t => (r.get t).map fun v => (t, v)
theorem Env.sel_get {ts : List Nat} {r : Env} {t : Nat} {v : Value} (h : (Env.sel ts r).get t = some v) : t ∈ ts ∧ r.get t = some v := by
  have := Env.get_mem h
  simp only [Env.sel, List.mem_filterMap] at this
  obtain ⟨t', ht', hv⟩ := this
  cases hr : r.get t' with
  | none => simp [hr] at hv
  | some u =>
    simp [hr] at hv
    obtain ⟨rfl, rfl⟩ := hv
    exact ⟨ht', hr⟩
/-- what a reading operation owes: its value, and a heap as it was -/
def Q1 (w0 : World) (d : Nat) (v : Value) (ds : List Nat) (m : Mem) (H : SHeap) : Exit → Act → World → Prop
  | .normal, a, w => a.tmps[d]? = some v ∧ a.defers = marks ds ∧ Sat w0 m H w
  | _, _, _ => False
section
variable {P : Program} {ro : Option Nat} {n : Nat} {w0 : World} {Q : Exit → Act → World → Prop} {r : Env} {ds : List Nat} {m : Mem} {H : SHeap}
theorem WQ.q1 {d : Nat} {v : Value} (hv : r.get d = some v) : WQ n w0 (Q1 w0 d v ds m H) .normal r ds m H := fun _ _ ho hs => ⟨ho.at_ _ _ hv, rfl, hs⟩
/-- the reading operations, in the text's order -/
inductive WD (P : Program) (ro : Option Nat) (n : Nat) (w0 : World) (ops : Array Oper) (ds : List Nat) (m : Mem) (H : SHeap) (K : Env → Prop) : List Oper → Env → Prop
  | nil {r : Env} : K r → WD P ro n w0 ops ds m H K [] r
  | cons {o : Oper} {rest : List Oper} {r : Env} {d : Nat} {v : Value} : o.dst = some d → (∀ c, o.op ≠ .defer c) → WL P ro n w0 ops (Q1 w0 d v ds m H) [o] (Env.sel (o.looksAt ops) r) ds m H →
      WD P ro n w0 ops ds m H K rest ((d, v) :: r) → WD P ro n w0 ops ds m H K (o :: rest) r
  | known {l : List Oper} {r : Env} (d : Nat) {b : Bool} (k : Bool) : r.get d = some (.bool b) → b = k → WD P ro n w0 ops ds m H K l ((d, .bool k) :: r) → WD P ro n w0 ops ds m H K l r
def Env.le (r r' : Env) : Prop := ∀ t u, r.get t = some u → r'.get t = some u
theorem Env.le.cons {r r' : Env} (h : r.le r') (d : Nat) (v : Value) : Env.le ((d, v) :: r) ((d, v) :: r') := by
  intro t u ht
  simp only [Env.get] at ht ⊢
  cases hb : Nat.beq d t with
  | true => simpa [hb] using ht
  | false => simp [hb] at ht ⊢; exact h t u ht
def envAt : List Oper → List Value → Nat → Env → Env
  | o :: l, v :: vs, i + 1, r => envAt l vs i ((o.dst.getD 0, v) :: r)
  | _, _, _, r => r
theorem WD.data {ops : Array Oper} {K : Env → Prop} {l : List Oper} (h : WD P ro n w0 ops ds m H K l r) : ∀ r0, r.le r0 → ∃ vals : List Value, vals.length = l.length ∧
    (∀ i o, l[i]? = some o → ∃ d v ri, o.dst = some d ∧ vals[i]? = some v ∧ Env.le ri (envAt l vals i r0) ∧ (∀ c, o.op ≠ .defer c) ∧ WL P ro n w0 ops (Q1 w0 d v ds m H) [o] (Env.sel (o.looksAt ops) ri) ds m H) ∧
    ∃ rf, Env.le rf (envAt l vals l.length r0) ∧ K rf := by
  induction h with
  | nil hK => exact fun r0 hr => ⟨[], rfl, fun i o h => by simp at h, _, hr, hK⟩
  | @cons o rest r d v hd hnd hwl _ ih =>
    intro r0 hr
    obtain ⟨vals, h1, h2, h3⟩ := ih ((d, v) :: r0) (hr.cons d v)
    refine ⟨v :: vals, by simp [h1], ?_, ?_⟩
    · intro i o' ho
      cases i with
      | zero =>
        simp at ho
        subst ho
        exact ⟨d, v, r, hd, rfl, hr, hnd, hwl⟩
      | succ i =>
        obtain ⟨d', v', ri, g1, g2, g3, g4⟩ := h2 i o' (by simpa using ho)
        exact ⟨d', v', ri, g1, by simpa using g2, by simpa [envAt, hd] using g3, g4⟩
    · obtain ⟨rf, g1, g2⟩ := h3
      exact ⟨rf, by simpa [envAt, hd] using g1, g2⟩
  | @known l r d b k hd hb _ ih =>
    intro r0 hr
    refine ih r0 (fun t u ht => ?_)
    simp only [Env.get] at ht
    cases hq : Nat.beq d t with
    | true =>
      have e := Nat.eq_of_beq_eq_true hq
      subst e; subst hb
      simp at ht
      subst ht
      exact hr _ _ hd
    | false => simp [hq] at ht; exact hr t u ht
theorem envAt_get : ∀ (l : List Oper) (vals : List Value) (i : Nat) (r0 : Env) (t : Nat) (u : Value), (envAt l vals i r0).get t = some u →
    (∃ j o v, j < i ∧ l[j]? = some o ∧ vals[j]? = some v ∧ o.dst.getD 0 = t ∧ u = v) ∨ (r0.get t = some u ∧ ∀ j o, j < i → j < vals.length → l[j]? = some o → o.dst.getD 0 ≠ t)
  | [], vals, i, r0, t, u, h => by
    have : (envAt [] vals i r0) = r0 := by cases i <;> cases vals <;> rfl
    rw [this] at h
    exact .inr ⟨h, fun j o _ _ hj => by simp at hj⟩
  | o :: l, [], i, r0, t, u, h => by
    have : (envAt (o :: l) [] i r0) = r0 := by cases i <;> rfl
    rw [this] at h
    exact .inr ⟨h, fun j o _ hj _ => by simp at hj⟩
  | o :: l, v :: vals, 0, r0, t, u, h => .inr ⟨h, fun j o hj _ _ => absurd hj (Nat.not_lt_zero _)⟩
  | o :: l, v :: vals, i + 1, r0, t, u, h => by
    simp only [envAt] at h
    rcases envAt_get l vals i _ t u h with ⟨j, o', v', h1, h2, h3, h4, h5⟩ | ⟨h1, h2⟩
    · exact .inl ⟨j + 1, o', v', by omega, by simpa using h2, by simpa using h3, h4, h5⟩
    · simp only [Env.get] at h1
      cases hq : Nat.beq (o.dst.getD 0) t with
      | true =>
        simp [hq] at h1
        exact .inl ⟨0, o, v, by omega, rfl, rfl, Nat.eq_of_beq_eq_true hq, h1.symm⟩
      | false =>
        simp [hq] at h1
        refine .inr ⟨h1, fun j o' hj hjv ho' => ?_⟩
        cases j with
        | zero =>
          simp at ho'
          subst ho'
          exact Nat.ne_of_beq_eq_false hq
        | succ j => exact h2 j o' (by omega) (by simpa using hjv) (by simpa using ho')
/-- from what a reading operation owes, whatever comes behind it -/
theorem wpOp_of_q1 {ops : Array Oper} {i : Nat} {o : Oper} {d : Nat} {v : Value} {tmps : Array Value} {w : World} {K : Act → World → Prop} (hi : ops[i]? = some o) (hd : o.dst = some d) (hnd : ∀ c, o.op ≠ .defer c)
    (h : wpListIn (FW ro) 0 P ops (Q1 w0 d v ds m H) [o] ⟨tmps, marks ds⟩ w) (hK : ∀ w', Sat w0 m H w' → d < tmps.size → K ⟨tmps.setIfInBounds d v, marks ds⟩ w') : wpOpIn (FW ro) 0 P ops Q i K ⟨tmps, marks ds⟩ w := by
  have key : ∀ v0 w', Q1 w0 d v ds m H .normal ((Act.mk tmps (marks ds)).put o.dst v0) w' → K ((Act.mk tmps (marks ds)).put o.dst v0) w' := by
    intro v0 w' hq
    rw [hd] at hq ⊢
    obtain ⟨h1, _, h3⟩ := hq
    simp only [Act.put] at h1 ⊢
    by_cases hlt : d < tmps.size
    · rw [Array.getElem?_setIfInBounds_self_of_lt hlt] at h1
      cases h1
      exact hK w' h3 hlt
    · rw [Array.getElem?_eq_none (by simpa using hlt)] at h1
      cases h1
  unfold wpOpIn
  rw [hi]
  unfold wpListIn at h
  simp only
  split
  · rename_i hw
    rw [if_pos hw] at h
    refine ⟨h.1, ?_⟩
    have h2 := h.2
    rw [semAt_exec (FW ro).round _ _ hnd] at h2 ⊢
    generalize hr : (execOp (Act.mk tmps (marks ds)).eval o).run P w = res at *
    cases res with
    | ok x w' =>
      cases x <;> simp only [Oper.uponIn] at h2 ⊢
      case value v0 => exact key _ _ h2
      case skip => exact key _ _ h2
      case defer df =>
        exfalso
        have h3 : _ ∧ _ = marks ds ∧ _ := h2
        have h4 := congrArg List.length h3.2.1
        rw [hd] at h4
        simp [Act.put] at h4
      case enter f args => exact ⟨h2.1, CallsIn.mono h2.2 fun e w'' he => by
        cases e with
        | returned v0 => exact key _ _ he
        | panicked chain => exact he.elim
        | outgrown => obtain ⟨a, b, hh⟩ := he; exact hh.elim⟩
      case row rw' args => exact ⟨h2.1, RowsIn.mono h2.2 fun v0 w'' he => key _ _ he⟩
      case round l f tm asg bd => exact ⟨h2.1, RoundIn.mono h2.2 fun e w'' he => by
        cases e with
        | returned v0 => exact key _ _ he
        | panicked chain => exact he.elim
        | outgrown => obtain ⟨a, b, hh⟩ := he; exact hh.elim⟩
    | halt x w' =>
      cases x <;> simp only [Oper.uponIn] at h2 ⊢
      all_goals exact h2.elim
  · rename_i hw
    rw [if_neg hw] at h
    exact ⟨h.1, key _ _ h.2⟩
theorem mask_bits (M : List Nat) : ∀ (es : List Edge) (b i : Nat), (es.foldl (fun b e => bif bind1 e then b ||| (1 <<< e.on) ||| M.getD e.on 0 else b) b).testBit i = true →
    b.testBit i = true ∨ ∃ e ∈ es, bind1 e = true ∧ (e.on = i ∨ (M.getD e.on 0).testBit i = true)
  | [], b, i, h => .inl h
  | e :: es, b, i, h => by
    simp only [List.foldl_cons] at h
    rcases mask_bits M es _ i h with h | ⟨e', he', h1, h2⟩
    · cases hb : bind1 e with
      | false => rw [hb] at h; exact .inl h
      | true =>
        rw [hb] at h
        simp only [cond_true, Nat.testBit_or, Bool.or_eq_true] at h
        rcases h with (h | h) | h
        · exact .inl h
        · refine .inr ⟨e, List.mem_cons_self, hb, .inl ?_⟩
          rw [Nat.one_shiftLeft, Nat.testBit_two_pow] at h
          simpa using h
        · exact .inr ⟨e, List.mem_cons_self, hb, .inr h⟩
    · exact .inr ⟨e', List.mem_cons_of_mem _ he', h1, h2⟩
structure DrawOk (l : List Oper) (g : Nat) (M : List Nat) : Prop where
  le : g ≤ l.length
  size : M.length = l.length
  down : ∀ i o, l[i]? = some o → ∀ e ∈ o.after, bind1 e = true → e.on < i
  sub : ∀ j o, l[j]? = some o → (M.getD j 0) &&& maskOf o M = M.getD j 0
  all : ∀ j, g ≤ j → j < l.length → ∀ i, i < j → (M.getD j 0).testBit i = true
  dst : ∀ i o, i < g → l[i]? = some o → o.dst.isSome = true ∧ ∀ j o', j < g → l[j]? = some o' → o.dst = o'.dst → i = j
  reads : ∀ i o, i < g → l[i]? = some o → ∀ t ∈ o.looksAt l.toArray, ∀ j o', j < g → l[j]? = some o' → o'.dst = some t → (j < i ∧ ∃ e ∈ o.after, bind1 e = true ∧ e.on = j) ∨ (i < j ∧ (M.getD j 0).testBit i = true)
theorem mem_zipIdx' {α : Type} {l : List α} {i : Nat} {x : α} (h : l[i]? = some x) : (x, i) ∈ l.zipIdx := by
  rw [List.mem_zipIdx_iff_getElem?]; exact h
theorem drawB_ok {l : List Oper} {g : Nat} (h : drawB l g = true) : DrawOk l g (masks l []) := by
  unfold drawB at h
  simp only [Bool.and_eq_true] at h
  obtain ⟨⟨⟨⟨⟨⟨h1, h2⟩, h3⟩, h4⟩, h5⟩, h6⟩, h7⟩ := h
  have hsz : (masks l []).length = l.length := Nat.eq_of_beq_eq_true h2
  have hg : g ≤ l.length := by simpa using h1
  have htake : ∀ i o, i < g → l[i]? = some o → (l.take g)[i]? = some o := fun i o hi ho => by rw [List.getElem?_take, if_pos hi]; exact ho
  refine ⟨hg, hsz, ?_, ?_, ?_, ?_, ?_⟩
  · intro i o ho e he hb
    have := List.all_eq_true.1 h3 (o, i) (mem_zipIdx' ho)
    have := Array.all_eq_true'.1 this e he
    simp [hb] at this
    simpa [Nat.blt_eq] using this
  · intro j o ho
    have hj : j < (masks l []).length := by rw [hsz]; exact (List.getElem?_eq_some_iff.1 ho).1
    have hM : (masks l [])[j]? = some ((masks l []).getD j 0) := by rw [List.getD_eq_getElem?_getD, List.getElem?_eq_getElem hj]; rfl
    have := List.all_eq_true.1 h4 _ (mem_zipIdx' hM)
    simp only [ho] at this
    exact Nat.eq_of_beq_eq_true this
  · intro j hgj hj i hi
    have hj' : j < (masks l []).length := by rw [hsz]; exact hj
    have hM : (masks l [])[j]? = some ((masks l []).getD j 0) := by rw [List.getD_eq_getElem?_getD, List.getElem?_eq_getElem hj']; rfl
    have := List.all_eq_true.1 h5 _ (mem_zipIdx' hM)
    simp only [Bool.or_eq_true] at this
    rcases this with h | h
    · have : j < g := by simpa [Nat.blt_eq] using h
      omega
    · have e := Nat.eq_of_beq_eq_true h
      have hb : ((masks l []).getD j 0 &&& (2 ^ j - 1)).testBit i = true := by
        rw [e, Nat.testBit_two_pow_sub_one]; simpa using hi
      rw [Nat.testBit_and, Bool.and_eq_true] at hb
      exact hb.1
  · intro i o hi ho
    have := List.all_eq_true.1 h6 _ (mem_zipIdx' (htake i o hi ho))
    simp only [Bool.and_eq_true] at this
    refine ⟨this.1, fun j o' hj ho' he => ?_⟩
    have := List.all_eq_true.1 this.2 _ (mem_zipIdx' (htake j o' hj ho'))
    simp only [Bool.or_eq_true] at this
    rcases this with h | h
    · exact Nat.eq_of_beq_eq_true h
    · simp [he] at h
  · intro i o hi ho t ht j o' hj ho' hd
    have := List.all_eq_true.1 h7 _ (mem_zipIdx' (htake i o hi ho))
    have := List.all_eq_true.1 this t ht
    have := List.all_eq_true.1 this _ (mem_zipIdx' (htake j o' hj ho'))
    simp only [Bool.or_eq_true, Bool.and_eq_true] at this
    rcases this with (h | ⟨h, h'⟩) | ⟨h, h'⟩
    · simp [hd] at h
    · obtain ⟨e, he, hb⟩ := Array.any_eq_true'.1 h'
      simp only [Bool.and_eq_true] at hb
      exact .inl ⟨by simpa [Nat.blt_eq] using h, e, he, hb.1, Nat.eq_of_beq_eq_true hb.2⟩
    · exact .inr ⟨by simpa [Nat.blt_eq] using h, h'⟩
/-- the operations listed so far hold with each all that it waits for -/
def Closed (l : List Oper) (listed : Array Bool) : Prop := ∀ j o, l[j]? = some o → listed.getD j false = true → ∀ e ∈ o.after, bind1 e = true → listed.getD e.on false = true
theorem mask_listed {l : List Oper} {g : Nat} {M : List Nat} (ok : DrawOk l g M) {listed : Array Bool} (hc : Closed l listed) :
    ∀ j o, l[j]? = some o → (∀ e ∈ o.after, bind1 e = true → listed.getD e.on false = true) → ∀ i, (M.getD j 0).testBit i = true → listed.getD i false = true := by
  intro j
  induction j using Nat.strongRecOn with
  | _ j ih =>
    intro o ho hw i hi
    rw [← ok.sub j o ho, Nat.testBit_and, Bool.and_eq_true] at hi
    rcases mask_bits M o.after.toList 0 i hi.2 with h | ⟨e, he, hb, h⟩
    · simp at h
    · have he' : e ∈ o.after := by simpa using he
      have hon := hw e he' hb
      rcases h with rfl | h
      · exact hon
      · have hlt := ok.down j o ho e he' hb
        have hl : e.on < l.length := by
          have := (List.getElem?_eq_some_iff.1 ho).1; omega
        exact ih e.on hlt l[e.on] (List.getElem?_eq_getElem hl) (hc e.on _ (List.getElem?_eq_getElem hl) hon) i h
theorem ready_of {l : List Oper} {listed : Array Bool} {i : Nat} (h : i ∈ Region.ready .any l.toArray listed) : listed.getD i true = false ∧ ∃ o, l[i]? = some o ∧ ∀ e ∈ o.after, bind1 e = true → listed.getD e.on false = true := by
  obtain ⟨h1, o, h2, h3⟩ := mem_ready.1 h
  exact ⟨h1, o, by simpa using h2, h3⟩
theorem closed_set {l : List Oper} {listed : Array Bool} {i : Nat} {o : Oper} (hc : Closed l listed) (ho : l[i]? = some o) (hw : ∀ e ∈ o.after, bind1 e = true → listed.getD e.on false = true) : Closed l (listed.setIfInBounds i true) := by
  have hget : ∀ k, listed.getD k false = true → (listed.setIfInBounds i true).getD k false = true := by
    intro k hk
    simp only [Array.getD_eq_getD_getElem?] at hk ⊢
    by_cases hik : i = k
    · subst hik
      by_cases hlt : i < listed.size
      · simp [hlt]
      · simp [Array.getElem?_eq_none (Nat.le_of_not_lt hlt)] at hk
    · rw [Array.getElem?_setIfInBounds_ne hik]; exact hk
  intro j o' ho' hj e he hb
  by_cases hij : i = j
  · subst hij
    rw [ho] at ho'
    cases ho'
    exact hget _ (hw e he hb)
  · have : listed.getD j false = true := by
      simp only [Array.getD_eq_getD_getElem?] at hj ⊢
      rwa [Array.getElem?_setIfInBounds_ne hij] at hj
    exact hget _ (hc j o' ho' this e he hb)
theorem nothing_ready {l : List Oper} {g : Nat} {M : List Nat} (ok : DrawOk l g M) {listed : Array Bool} (hs : listed.size = l.length) (h : Region.ready .any l.toArray listed = []) : ∀ i, i < l.length → listed.getD i false = true := by
  intro i
  induction i using Nat.strongRecOn with
  | _ i ih =>
    intro hi
    cases hq : listed.getD i false with
    | true => rfl
    | false =>
      exfalso
      have hmem : i ∈ Region.ready .any l.toArray listed := by
        refine mem_ready.2 ⟨?_, l[i], by simp [hi], fun e he hb => ?_⟩
        · simp only [Array.getD_eq_getD_getElem?] at hq ⊢
          rw [Array.getElem?_eq_getElem (by omega)] at hq ⊢
          exact hq
        · have hlt := ok.down i l[i] (List.getElem?_eq_getElem hi) e he hb
          exact ih e.on hlt (by omega)
      rw [h] at hmem
      cases hmem
/-- the tail, one behind the other -/
theorem tail_any {l : List Oper} {g : Nat} {M : List Nat} (ok : DrawOk l g M) : ∀ (fuel j : Nat) (listed : Array Bool) (a : Act) (w : World), listed.size = l.length → g ≤ j → j ≤ l.length → (∀ i, i < l.length → (listed.getD i false = true ↔ i < j)) → l.length - j ≤ fuel →
    wpListIn (FW ro) 0 P l.toArray Q (l.drop j) a w → wpAnyIn (FW ro) 0 P .any l.toArray Q fuel listed a w := by
  intro fuel
  induction fuel with
  | zero =>
    intro j listed a w hs hg hj hl hf h
    have : j = l.length := by omega
    subst this
    rw [List.drop_length] at h
    refine ⟨?_, h⟩
    cases hr : Region.ready .any l.toArray listed with
    | nil => rfl
    | cons i is =>
      exfalso
      obtain ⟨h1, o, h2, _⟩ := ready_of (l := l) (listed := listed) (i := i) (by rw [hr]; exact List.mem_cons_self)
      have hi := (List.getElem?_eq_some_iff.1 h2).1
      have := (hl i hi).2 hi
      simp only [Array.getD_eq_getD_getElem?] at h1 this
      rw [Array.getElem?_eq_getElem (by omega)] at h1 this
      simp at h1 this
      rw [h1] at this; cases this
  | succ fuel ih =>
    intro j listed a w hs hg hj hl hf h
    have hclosed : Closed l listed := by
      intro k o ho hk e he hb
      have hkl := (List.getElem?_eq_some_iff.1 ho).1
      have hkj := (hl k hkl).1 hk
      have := ok.down k o ho e he hb
      exact (hl e.on (by omega)).2 (by omega)
    refine ⟨fun hr => ?_, fun i hi => ?_⟩
    · have hall := nothing_ready ok hs hr
      have : ¬ j < l.length := fun hlt => by have := (hl j hlt).1 (hall j hlt); omega
      have : j = l.length := by omega
      subst this
      rw [List.drop_length] at h
      exact h
    · obtain ⟨h1, o, h2, h3⟩ := ready_of hi
      have hil := (List.getElem?_eq_some_iff.1 h2).1
      have hnl : ¬ i < j := fun hlt => by
        have := (hl i hil).2 hlt
        simp only [Array.getD_eq_getD_getElem?] at h1 this
        rw [Array.getElem?_eq_getElem (by omega)] at h1 this
        simp at h1 this
        rw [h1] at this; cases this
      have hij : i = j := by
        rcases Nat.lt_or_ge j i with hlt | hge
        · exfalso
          have hb := ok.all i (by omega) hil j hlt
          have := mask_listed ok hclosed i o h2 h3 j hb
          have := (hl j (by omega)).1 this
          omega
        · omega
      subst hij
      rw [List.drop_eq_getElem_cons hil] at h
      have ho : l[i] = o := by rw [List.getElem?_eq_getElem hil] at h2; exact Option.some.inj h2
      rw [ho] at h
      have hgo : wpOpIn (FW ro) 0 P l.toArray Q i (wpListIn (FW ro) 0 P l.toArray Q (l.drop (i + 1))) a w := by
        unfold wpOpIn
        have : l.toArray[i]? = some o := by simpa using h2
        rw [this]
        unfold wpListIn at h
        exact h
      refine wpOpIn_mono (fun a' w' h' => ?_) hgo
      refine ih (i + 1) (listed.setIfInBounds i true) a' w' (by simp [hs]) (by omega) (by omega) ?_ (by omega) h'
      intro k hk
      simp only [Array.getD_eq_getD_getElem?]
      by_cases hik : i = k
      · subst hik
        simp [show i < listed.size by omega]
      · rw [Array.getElem?_setIfInBounds_ne hik]
        have := hl k hk
        simp only [Array.getD_eq_getD_getElem?] at this
        rw [this]; omega
theorem sub_of_eq {a b : List Nat} (e : a = b) : List.Sublist a b := e ▸ List.Sublist.refl _
theorem draw_any {l : List Oper} {g : Nat} {M : List Nat} (ok : DrawOk l g M) {vals : List Value} {r0 : Env} (hv : vals.length = (l.take g).length)
    (hop : ∀ i o, (l.take g)[i]? = some o → ∃ d v ri, o.dst = some d ∧ vals[i]? = some v ∧ Env.le ri (envAt (l.take g) vals i r0) ∧ (∀ c, o.op ≠ .defer c) ∧ WL P ro n w0 l.toArray (Q1 w0 d v ds m H) [o] (Env.sel (o.looksAt l.toArray) ri) ds m H)
    {rf : Env} (hrf : Env.le rf (envAt (l.take g) vals (l.take g).length r0)) (hK : WL P ro n w0 l.toArray Q (l.drop g) rf ds m H) :
    ∀ (fuel : Nat) (listed : Array Bool) (tmps : Array Value) (w : World), listed.size = l.length → Closed l listed → (∃ i, i < g ∧ listed.getD i false = false ∨ (∀ i, i < g → listed.getD i false = true)) →
      (∀ j, g ≤ j → j < l.length → listed.getD j false = false) → tmps.size = n →
      (∀ j o v d, j < g → listed.getD j false = true → l[j]? = some o → vals[j]? = some v → o.dst = some d → tmps[d]? = some v) →
      (∀ t u, r0.get t = some u → (∀ j o, j < g → l[j]? = some o → listed.getD j false = true → o.dst ≠ some t) → tmps[t]? = some u) → Sat w0 m H w →
      ((List.range l.length).filter fun i => !listed.getD i false).length ≤ fuel → wpAnyIn (FW ro) 0 P .any l.toArray Q fuel listed ⟨tmps, marks ds⟩ w := by
  have hgl : (l.take g).length = g := by rw [List.length_take]; exact Nat.min_eq_left ok.le
  have htake : ∀ i o, i < g → l[i]? = some o → (l.take g)[i]? = some o := fun i o hi ho => by rw [List.getElem?_take, if_pos hi]; exact ho
  have htake' : ∀ i o, (l.take g)[i]? = some o → i < g ∧ l[i]? = some o := fun i o ho => by
    rw [List.getElem?_take] at ho
    split at ho
    · exact ⟨by assumption, ho⟩
    · cases ho
  intro fuel
  induction fuel with
  | zero =>
    intro listed tmps w hs hc _ htl htz hdone hold hsat hf
    have hall : ∀ i, i < l.length → listed.getD i false = true := by
      intro i hi
      cases hq : listed.getD i false with
      | true => rfl
      | false =>
        exfalso
        have : i ∈ (List.range l.length).filter fun i => !listed.getD i false := by simp only [List.mem_filter, List.mem_range]; exact ⟨hi, by rw [hq]; rfl⟩
        have h0 := List.eq_nil_of_length_eq_zero (Nat.le_zero.1 hf)
        rw [h0] at this; cases this
    have hgN : g = l.length := by
      rcases Nat.lt_or_ge g l.length with h | h
      · have h1 := hall g h; rw [htl g (Nat.le_refl _) h] at h1; cases h1
      · exact Nat.le_antisymm ok.le h
    refine tail_any ok 0 l.length listed _ _ hs (by omega) (Nat.le_refl _) (fun i hi => ⟨fun _ => hi, fun _ => hall i hi⟩) (by omega) ?_
    rw [← hgN]
    refine hK tmps w ⟨htz, fun t u ht => ?_⟩ hsat
    rcases envAt_get _ _ _ _ _ _ (hrf t u ht) with ⟨j, o, v, h1, h2, h3, h4, h5⟩ | ⟨h1, h2⟩
    · obtain ⟨hjg, hjo⟩ := htake' j o h2
      obtain ⟨d, hd⟩ := Option.isSome_iff_exists.1 (ok.dst j o hjg hjo).1
      rw [hd] at h4; simp at h4; subst h4; subst h5
      exact hdone j o u d hjg (hall j (by omega)) hjo h3 hd
    · refine hold t u h1 (fun j o hj ho _ hd => ?_)
      have := h2 j o (by rw [hgl]; exact hj) (by rw [hv, hgl]; exact hj) (htake j o hj ho)
      rw [hd] at this; exact this rfl
  | succ fuel ih =>
    intro listed tmps w hs hc _ htl htz hdone hold hsat hf
    by_cases hfin : ∀ i, i < g → listed.getD i false = true
    · -- all that reads is done
      refine tail_any ok (fuel + 1) g listed _ _ hs (Nat.le_refl _) ok.le (fun i hi => ⟨fun h => ?_, hfin i⟩) ?_ ?_
      · rcases Nat.lt_or_ge i g with hlt | hge
        · exact hlt
        · rw [htl i hge hi] at h; cases h
      · have : (List.range l.length).filter (fun i => !listed.getD i false) = (List.range l.length).filter (fun i => decide (g ≤ i)) := by
          apply List.filter_congr
          intro i hi
          have hi' := List.mem_range.1 hi
          rcases Nat.lt_or_ge i g with hlt | hge
          · rw [hfin i hlt]; simp; omega
          · rw [htl i hge hi']; simp [hge]
        rw [this] at hf
        have hcnt : l.length - g ≤ ((List.range l.length).filter (fun i => decide (g ≤ i))).length := by
          have hsub : List.Sublist (List.range' g (l.length - g)) ((List.range l.length).filter (fun i => decide (g ≤ i))) := by
            obtain ⟨k, hk⟩ : ∃ k, l.length = g + k := ⟨l.length - g, by have := ok.le; omega⟩
            have e : List.range l.length = List.range' 0 g ++ List.range' g (l.length - g) := by
              rw [List.range_eq_range', hk, Nat.add_sub_cancel_left]
              have := @List.range'_append 0 g k 1
              simpa using this.symm
            rw [e, List.filter_append]
            refine List.Sublist.trans ?_ (List.sublist_append_right _ _)
            rw [List.filter_eq_self.2 (fun i hi => by have := List.mem_range'_1.1 hi; simp; omega)]
            exact List.Sublist.refl _
          have := hsub.length_le
          simpa using this
        omega
      · refine hK tmps w ⟨htz, fun t u ht => ?_⟩ hsat
        rcases envAt_get _ _ _ _ _ _ (hrf t u ht) with ⟨j, o, v, h1, h2, h3, h4, h5⟩ | ⟨h1, h2⟩
        · obtain ⟨hjg, hjo⟩ := htake' j o h2
          obtain ⟨d, hd⟩ := Option.isSome_iff_exists.1 (ok.dst j o hjg hjo).1
          rw [hd] at h4; simp at h4; subst h4; subst h5
          exact hdone j o u d hjg (hfin j hjg) hjo h3 hd
        · refine hold t u h1 (fun j o hj ho _ hd => ?_)
          have := h2 j o (by rw [hgl]; exact hj) (by rw [hv, hgl]; exact hj) (htake j o hj ho)
          rw [hd] at this; exact this rfl
    · -- one more reads
      refine ⟨fun hr => absurd (fun i hi => nothing_ready ok hs hr i (by have := ok.le; omega)) hfin, fun i hi => ?_⟩
      obtain ⟨h1, o, h2, h3⟩ := ready_of hi
      have hil := (List.getElem?_eq_some_iff.1 h2).1
      have hig : i < g := by
        rcases Nat.lt_or_ge i g with hlt | hge
        · exact hlt
        · exfalso
          refine hfin (fun k hk => ?_)
          exact mask_listed ok hc i o h2 h3 k (ok.all i hge hil k (by omega))
      have hnl : listed.getD i false = false := by
        simp only [Array.getD_eq_getD_getElem?] at h1 ⊢
        rw [Array.getElem?_eq_getElem (by omega)] at h1 ⊢
        exact h1
      obtain ⟨d, v, ri, g1, g2, g3, g4, g5⟩ := hop i o (htake i o hig h2)
      refine wpOp_of_q1 (m := m) (H := H) (w0 := w0) (v := v) (by simpa using h2) g1 g4 ?_ ?_
      · refine g5 tmps w ⟨htz, fun t u ht => ?_⟩ hsat
        obtain ⟨hlook, hget⟩ := Env.sel_get ht
        rcases envAt_get _ _ _ _ _ _ (g3 t u hget) with ⟨j, oj, vj, k1, k2, k3, k4, k5⟩ | ⟨k1, k2⟩
        · obtain ⟨hjg, hjo⟩ := htake' j oj k2
          obtain ⟨dj, hdj⟩ := Option.isSome_iff_exists.1 (ok.dst j oj hjg hjo).1
          rw [hdj] at k4; simp at k4; subst k4; subst k5
          obtain ⟨_, e, he, hb, hon⟩ : j < i ∧ ∃ e ∈ o.after, bind1 e = true ∧ e.on = j := by
            rcases ok.reads i o hig h2 dj hlook j oj hjg hjo hdj with h | h
            · exact h
            · omega
          have := h3 e he hb
          rw [hon] at this
          exact hdone j oj u dj hjg this hjo k3 hdj
        · refine hold t u k1 (fun j oj hj hoj hjl hd => ?_)
          rcases ok.reads i o hig h2 t hlook j oj hj hoj hd with ⟨hlt, _⟩ | ⟨_, hbit⟩
          · have := k2 j oj hlt (by rw [hv, hgl]; exact hj) (htake j oj hj hoj)
            rw [hd] at this; exact this rfl
          · have := mask_listed ok hc j oj hoj (hc j oj hoj hjl) i hbit
            rw [hnl] at this; cases this
      · intro w' hsat' hdlt
        refine ih (listed.setIfInBounds i true) (tmps.setIfInBounds d v) w' (by simp [hs]) (closed_set hc h2 h3) ?_ ?_ (by simp [htz]) ?_ ?_ hsat' ?_
        · by_cases hx : ∃ k, k < g ∧ (listed.setIfInBounds i true).getD k false = false
          · obtain ⟨k, hk1, hk2⟩ := hx
            exact ⟨k, .inl ⟨hk1, hk2⟩⟩
          · refine ⟨0, .inr fun k hk => ?_⟩
            cases hq : (listed.setIfInBounds i true).getD k false with
            | true => rfl
            | false => exact absurd ⟨k, hk, hq⟩ hx
        · intro j hj hjl
          have := htl j hj hjl
          simp only [Array.getD_eq_getD_getElem?] at this ⊢
          rwa [Array.getElem?_setIfInBounds_ne (by omega)]
        · intro j oj vj dj hjg hjl hjo hjv hjd
          by_cases hij : i = j
          · subst hij
            rw [h2] at hjo; cases hjo
            rw [g1] at hjd; cases hjd
            rw [g2] at hjv; cases hjv
            exact Array.getElem?_setIfInBounds_self_of_lt hdlt
          · have hne : d ≠ dj := fun e => by
              subst e
              exact hij ((ok.dst i o hig h2).2 j oj hjg hjo (g1.trans hjd.symm))
            rw [Array.getElem?_setIfInBounds_ne hne]
            refine hdone j oj vj dj hjg ?_ hjo hjv hjd
            simp only [Array.getD_eq_getD_getElem?] at hjl ⊢
            rwa [Array.getElem?_setIfInBounds_ne hij] at hjl
        · intro t u ht hno
          have hil' : (listed.setIfInBounds i true).getD i false = true := by
            simp [show i < listed.size by omega]
          have hne : d ≠ t := fun e => by subst e; exact hno i o hig h2 hil' g1
          rw [Array.getElem?_setIfInBounds_ne hne]
          refine hold t u ht (fun j oj hj hoj hjl => hno j oj hj hoj ?_)
          by_cases hij : i = j
          · subst hij; exact hil'
          · simp only [Array.getD_eq_getD_getElem?] at hjl ⊢
            rwa [Array.getElem?_setIfInBounds_ne hij]
        · have hlt : ((List.range l.length).filter fun k => !(listed.setIfInBounds i true).getD k false).length < ((List.range l.length).filter fun k => !listed.getD k false).length := by
            have hsub : List.Sublist ((List.range l.length).filter fun k => !(listed.setIfInBounds i true).getD k false) (((List.range l.length).filter fun k => !listed.getD k false).erase i) := by
              have hnd : ((List.range l.length).filter fun k => !listed.getD k false).Nodup := List.Pairwise.filter _ List.nodup_range
              rw [hnd.erase_eq_filter, List.filter_filter]
              refine sub_of_eq ?_
              apply List.filter_congr
              intro k hk
              simp only [Array.getD_eq_getD_getElem?]
              by_cases hik : i = k
              · subst hik; simp [show i < listed.size by omega]
              · rw [Array.getElem?_setIfInBounds_ne hik]; simp [Ne.symm hik]
            have hmem : i ∈ (List.range l.length).filter fun k => !listed.getD k false := by simp only [List.mem_filter, List.mem_range]; exact ⟨hil, by rw [hnl]; rfl⟩
            have h5 := hsub.length_le
            rw [List.length_erase_of_mem hmem] at h5
            have := List.length_pos_of_mem hmem
            omega
          omega
/-- a region that draws its order -/
theorem WC.draw {id : Nat} {l : List Oper} (g : Nat) (hm : P.follows .mixedOrders = true) (hc : drawB l g = true) (h : WD P ro n w0 l.toArray ds m H (fun r' => WL P ro n w0 l.toArray Q (l.drop g) r' ds m H) (l.take g) r) :
    WC P ro n w0 (.region id l.toArray true) Q r ds m H := by
  intro tmps w ho hs
  have ok := drawB_ok hc
  obtain ⟨vals, h1, h2, rf, h3, h4⟩ := h.data r (fun _ _ h => h)
  refine wpIn_region_draw fun t => ?_
  simp only [Region.schedule, hm, Bool.true_or, if_true]
  refine wpAnyIn_sound _ _ _ _ _ ?_
  have hz : ∀ k, (Array.replicate l.length false).getD k false = false := by
    intro k
    simp only [Array.getD_eq_getD_getElem?]
    by_cases hk : k < l.length
    · simp [hk]
    · rw [Array.getElem?_eq_none (by simpa using hk)]; rfl
  have hsz : l.toArray.size = l.length := by simp
  rw [hsz]
  refine draw_any ok h1 h2 h3 h4 l.length _ tmps _ (by simp) (fun j o _ hj => by rw [hz] at hj; cases hj) ?_ (fun j _ _ => hz j) ho.size (fun j o v d _ hj => by rw [hz] at hj; cases hj) (fun t u ht _ => ho.at_ t u ht) hs.drew ?_
  · by_cases hg : 0 < g
    · exact ⟨0, .inl ⟨hg, hz 0⟩⟩
    · exact ⟨0, .inr fun i hi => by omega⟩
  · exact Nat.le_trans (List.length_filter_le _ _) (by simp)
end
end Go.Eng
