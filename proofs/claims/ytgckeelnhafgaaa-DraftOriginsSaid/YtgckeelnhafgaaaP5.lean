/-
  Parts of a walk, joined: DT4 DT5 EngY EngZ EngZA EngZB EngZC EngZD EngZF EngT D1 D2 D3 D4 D5 D6 EngZG D7 EngZI EngZJ EngMA EngMB EngLP. No condition.
-/
import Derived.Test.YtgckeelnhafgaaaP4
import Derived.Lib.Builder
import Derived.Lib.UnsafeStr
import Derived.Laws.Externs
import Derived.Test.YtgckeelnhafgaaaP3
import Derived.Test.YtgckeelnhafgaaaP1
set_option linter.all false
/-
  Units and tokens follow one another from a text's beginning to its end; the texts of tokens. No condition.
-/
namespace Go.Eng
open Go
def ChU : Nat → List Un → Nat → Prop
  | a, [], z => a = z
  | a, u :: us, z => u.a = a ∧ u.a < u.z ∧ ChU u.z us z
def ChT : Nat → List Tk → Nat → Prop
  | a, [], z => a = z
  | a, t :: ts, z => t.a = a ∧ t.a < t.z ∧ ChT t.z ts z
theorem uGo_chain (l : List UInt8) : ∀ (d k : Nat), l.length - k ≤ d → k ≤ l.length → ChU k (uGo none (from_ l k)) l.length ∧ ∀ u : Un, u.a < u.z → u.z = k → ChU u.a (uGo (some u) (from_ l k)) l.length
  | d, k, hd, hk => by
    by_cases hlt : k < l.length
    · have hw := readP_w hlt
      have hat := readP_at l k
      cases d with
      | zero => omega
      | succ d =>
        obtain ⟨_, ih⟩ := uGo_chain l d (k + (readP l k).w) (by omega) hw.2.2
        have hh : ChU k (uGo (some (headU (readP l k))) (from_ l (k + (readP l k).w))) l.length := by
          have := ih (headU (readP l k)) (by simp only [headU]; omega) (by simp only [headU, hat])
          simpa only [headU, hat] using this
        rw [from_cons hlt]
        refine ⟨by rw [uGo_none]; exact hh, fun u hu hz => ?_⟩
        by_cases hm : kindP (readP l k) = 2 ∧ ¬ bareK u.k
        · rw [uGo_mark hm]
          have := ih (u.ext (readP l k)) (by simp only [Un.ext]; omega) (by simp only [Un.ext]; omega)
          simpa only [Un.ext] using this
        · rw [uGo_free hm]
          exact ⟨rfl, hu, by rw [hz]; exact hh⟩
    · obtain rfl : k = l.length := by omega
      rw [from_nil (Nat.lt_irrefl _)]
      exact ⟨rfl, fun u hu hz => ⟨rfl, hu, hz⟩⟩
theorem units_chain (l : List UInt8) : ChU 0 (unitsL l) l.length := (uGo_chain l l.length 0 (by omega) (Nat.zero_le _)).1
theorem headU_ok {l : List UInt8} {k : Nat} (hk : k < l.length) : UOk (headU (readP l k)) := by
  unfold headU UOk kindP
  rcases readP_cases hk with ⟨h1, _, h3⟩ | ⟨h1, _, _⟩
  · rw [if_pos h1]; exact .inl ⟨rfl, h3⟩
  · rw [if_neg (by rw [h1]; decide)]; exact .inr rfl
theorem uGo_ok (l : List UInt8) : ∀ (d k : Nat), l.length - k ≤ d → (∀ u ∈ uGo none (from_ l k), UOk u) ∧ ∀ v : Un, UOk v → ∀ u ∈ uGo (some v) (from_ l k), UOk u
  | d, k, hd => by
    by_cases hlt : k < l.length
    · have hw := readP_w hlt
      cases d with
      | zero => omega
      | succ d =>
        obtain ⟨_, ih⟩ := uGo_ok l d (k + (readP l k).w) (by omega)
        rw [from_cons hlt]
        refine ⟨by rw [uGo_none]; exact ih _ (headU_ok hlt), fun v hv => ?_⟩
        by_cases hm : kindP (readP l k) = 2 ∧ ¬ bareK v.k
        · rw [uGo_mark hm]; exact ih (v.ext (readP l k)) hv
        · rw [uGo_free hm]
          intro u hu
          rcases List.mem_cons.1 hu with rfl | hu
          · exact hv
          · exact ih _ (headU_ok hlt) u hu
    · rw [from_nil hlt]
      refine ⟨fun u hu => (by cases hu), fun v hv u hu => ?_⟩
      obtain rfl : u = v := List.mem_singleton.1 hu
      exact hv
theorem units_ok (l : List UInt8) : ∀ u ∈ unitsL l, UOk u := (uGo_ok l l.length 0 (by omega)).1
theorem ChU.le : ∀ {us : List Un} {a z : Nat}, ChU a us z → a ≤ z
  | [], a, z, h => Nat.le_of_eq h
  | u :: us, a, z, ⟨h1, h2, h3⟩ => by have := h3.le; omega
theorem ChU.drop : ∀ {us : List Un} {a z n : Nat}, ChU a us z → n ≤ us.length → ChU (lastZ a us n) (us.drop n) z ∧ a ≤ lastZ a us n
  | us, a, z, 0, h, _ => ⟨h, Nat.le_refl _⟩
  | [], a, z, n + 1, h, hn => by simp at hn
  | u :: us, a, z, n + 1, ⟨h1, h2, h3⟩, hn => by
    have hn' : n ≤ us.length := by simpa using hn
    obtain ⟨i1, i2⟩ := h3.drop (n := n) hn'
    have e : lastZ a (u :: us) (n + 1) = lastZ u.z us n := by
      unfold lastZ
      rw [if_neg (by omega), Nat.add_sub_cancel]
      cases n with
      | zero => simp
      | succ n =>
        rw [if_neg (by omega), Nat.add_sub_cancel, List.getElem?_cons_succ, List.getElem?_eq_getElem (by omega)]; rfl
    rw [e, List.drop_succ_cons]
    exact ⟨i1, by omega⟩
theorem rTok_chain : ∀ (f : Nat) (us : List Un) (a z : Nat), us.length ≤ f → ChU a us z → ChT a (rTok f us) z
  | 0, [], a, z, _, h => h
  | 0, u :: us, a, z, h, _ => by simp at h
  | f + 1, [], a, z, _, h => h
  | f + 1, u :: us, a, z, hf, ⟨h1, h2, h3⟩ => by
    rw [rTok]
    have hle := takeN_le u us
    obtain ⟨i1, i2⟩ := h3.drop hle
    exact ⟨h1, by simp only; omega, rTok_chain f _ _ z (by rw [List.length_drop]; rw [List.length_cons] at hf; omega) i1⟩
theorem tokens_run (l : List UInt8) : tokens l = rTok (unitsL l).length (unitsL l) := scan_run _ _ (Nat.le_refl _) (units_ok l)
theorem tokens_chain (l : List UInt8) : ChT 0 (tokens l) l.length := by
  rw [tokens_run]; exact rTok_chain _ _ _ _ (Nat.le_refl _) (units_chain l)
/-- a token's text -/
def tokT (s : List UInt8) (t : Tk) : List UInt8 := (s.take t.z).drop t.a
/-- the texts of a text's tokens -/
def toks (s : List UInt8) : List (List UInt8) := (tokens s).map (tokT s)
theorem ChT.le : ∀ {ts : List Tk} {a z : Nat}, ChT a ts z → a ≤ z
  | [], a, z, h => Nat.le_of_eq h
  | t :: ts, a, z, ⟨h1, h2, h3⟩ => by have := h3.le; omega
theorem ChT.mem : ∀ {ts : List Tk} {a z : Nat}, ChT a ts z → ∀ t ∈ ts, t.a < t.z ∧ t.z ≤ z
  | [], a, z, h, t, ht => by cases ht
  | t :: ts, a, z, ⟨h1, h2, h3⟩, x, hx => by
    rcases List.mem_cons.1 hx with rfl | hx
    · exact ⟨h2, h3.le⟩
    · exact h3.mem x hx
theorem ChT.texts (s : List UInt8) : ∀ {ts : List Tk} {a : Nat}, ChT a ts s.length → (ts.map (tokT s)).flatten = s.drop a
  | [], a, h => by
    have : a = s.length := h
    subst this; simp
  | t :: ts, a, ⟨h1, h2, h3⟩ => by
    have hz := h3.le
    rw [List.map_cons, List.flatten_cons, h3.texts s, tokT, h1, List.drop_take]
    have e : s.drop t.z = (s.drop a).drop (t.z - a) := by rw [List.drop_drop]; congr 1; omega
    rw [e, List.take_append_drop]
theorem toks_join (s : List UInt8) : (toks s).flatten = s := by
  have := (tokens_chain s).texts s
  rwa [List.drop_zero] at this
theorem toks_some (s : List UInt8) : ∀ x ∈ toks s, x ≠ [] := by
  intro x hx
  obtain ⟨t, ht, rfl⟩ := List.mem_map.1 hx
  have := (tokens_chain s).mem t ht
  intro h
  have := congrArg List.length h
  rw [tokT, List.length_drop, List.length_take, List.length_nil] at this
  omega
theorem toks_length (s : List UInt8) : (toks s).length ≤ s.length := by
  have h1 := toks_some s
  have h2 := toks_join s
  have : ∀ l : List (List UInt8), (∀ x ∈ l, x ≠ []) → l.length ≤ l.flatten.length := by
    intro l
    induction l with
    | nil => simp
    | cons x l ih =>
      intro h
      have := ih fun y hy => h y (List.mem_cons_of_mem _ hy)
      have h3 : 0 < x.length := List.length_pos_iff.2 (h x List.mem_cons_self)
      rw [List.flatten_cons, List.length_append, List.length_cons]; omega
  have := this _ h1
  rwa [h2] at this
end Go.Eng

/-
  The longest rows of pairs of two lists: the table, and the first of them. No condition.
-/
namespace Go.Eng
open Go
abbrev Tx := List UInt8
def lcs : List Tx → List Tx → Nat
  | [], _ => 0
  | _ :: _, [] => 0
  | x :: xs, y :: ys => if x = y then lcs xs ys + 1 else max (lcs xs (y :: ys)) (lcs (x :: xs) ys)
termination_by a b => a.length + b.length
theorem lcs_nil (a : List Tx) : lcs a [] = 0 := by cases a <;> simp [lcs]
theorem lcs_nil' (b : List Tx) : lcs [] b = 0 := by simp [lcs]
theorem lcs_eq {x : Tx} {xs ys : List Tx} : lcs (x :: xs) (x :: ys) = lcs xs ys + 1 := by rw [lcs, if_pos rfl]
theorem lcs_ne {x y : Tx} {xs ys : List Tx} (h : x ≠ y) : lcs (x :: xs) (y :: ys) = max (lcs xs (y :: ys)) (lcs (x :: xs) ys) := by rw [lcs, if_neg h]
theorem lcs_steps : ∀ (n : Nat) (a b : List Tx), a.length + b.length ≤ n →
    (∀ x, lcs a b ≤ lcs (x :: a) b ∧ lcs (x :: a) b ≤ lcs a b + 1) ∧ (∀ y, lcs a b ≤ lcs a (y :: b) ∧ lcs a (y :: b) ≤ lcs a b + 1)
  | n, [], b, _ => by
    have h0 : ∀ (x : Tx) (b : List Tx), lcs [x] b ≤ 1 := by
      intro x b
      induction b with
      | nil => simp [lcs]
      | cons y ys ih =>
        by_cases h : x = y
        · subst h; rw [lcs_eq, lcs_nil']; exact Nat.le_refl _
        · rw [lcs_ne h, lcs_nil']; omega
    refine ⟨fun x => ⟨by rw [lcs_nil']; omega, by rw [lcs_nil']; exact h0 x b⟩, fun y => ⟨by rw [lcs_nil', lcs_nil']; omega, by rw [lcs_nil', lcs_nil']; omega⟩⟩
  | n, x0 :: a, [], _ => by
    have h0 : ∀ (y : Tx) (a : List Tx), lcs a [y] ≤ 1 := by
      intro y a
      induction a with
      | nil => simp [lcs]
      | cons x xs ih =>
        by_cases h : x = y
        · subst h; rw [lcs_eq, lcs_nil]; exact Nat.le_refl _
        · rw [lcs_ne h, lcs_nil]; omega
    refine ⟨fun x => ⟨by rw [lcs_nil, lcs_nil]; omega, by rw [lcs_nil, lcs_nil]; omega⟩, fun y => ⟨by rw [lcs_nil]; omega, by rw [lcs_nil]; exact h0 y _⟩⟩
  | 0, x0 :: a, y0 :: b, h => by simp at h
  | n + 1, x0 :: a, y0 :: b, h => by
    have hl : (x0 :: a).length + (y0 :: b).length = a.length + b.length + 2 := by simp only [List.length_cons]; omega
    obtain ⟨p1, p2⟩ := lcs_steps n a b (by omega)
    obtain ⟨q1, q2⟩ := lcs_steps n a (y0 :: b) (by simp only [List.length_cons] at *; omega)
    obtain ⟨r1, r2⟩ := lcs_steps n (x0 :: a) b (by simp only [List.length_cons] at *; omega)
    -- one ahead of the left, one ahead of the right
    have base1 := q1 x0
    have base2 := r2 y0
    refine ⟨fun x => ?_, fun y => ?_⟩
    · by_cases hxy : x = y0
      · subst hxy
        rw [lcs_eq]
        have := r2 x
        omega
      · rw [lcs_ne hxy]
        have g1 := r1 x
        have g2 := r2 y0
        omega
    · by_cases hxy : x0 = y
      · subst hxy
        rw [lcs_eq]
        have := q1 x0
        omega
      · rw [lcs_ne hxy]
        have g1 := q2 y
        have g2 := q1 x0
        omega
theorem lcs_left (x : Tx) (a b : List Tx) : lcs a b ≤ lcs (x :: a) b ∧ lcs (x :: a) b ≤ lcs a b + 1 := (lcs_steps _ a b (Nat.le_refl _)).1 x
theorem lcs_right (y : Tx) (a b : List Tx) : lcs a b ≤ lcs a (y :: b) ∧ lcs a (y :: b) ≤ lcs a b + 1 := (lcs_steps _ a b (Nat.le_refl _)).2 y
theorem lcs_le (a b : List Tx) : lcs a b ≤ a.length ∧ lcs a b ≤ b.length := by
  constructor
  · induction a with
    | nil => rw [lcs_nil']; exact Nat.zero_le _
    | cons x a ih => have := lcs_left x a b; rw [List.length_cons]; omega
  · induction b with
    | nil => rw [lcs_nil]; exact Nat.zero_le _
    | cons y b ih => have := lcs_right y a b; rw [List.length_cons]; omega
/-- the first place of b where a pair with x may stand -/
def firstJ (x : Tx) (xs : List Tx) (n : Nat) : List Tx → Option Nat
  | [] => none
  | y :: ys => if x = y ∧ lcs xs ys + 1 = n then some 0 else (firstJ x xs n ys).map (· + 1)
theorem firstJ_some {x : Tx} {xs : List Tx} {n : Nat} : ∀ {bs : List Tx} {j : Nat}, firstJ x xs n bs = some j → j < bs.length ∧ bs[j]? = some x ∧ lcs xs (bs.drop (j + 1)) + 1 = n
  | [], j, h => by cases h
  | y :: ys, j, h => by
    rw [firstJ] at h
    split at h
    · next h1 => cases h; exact ⟨by simp, by simp [h1.1], by simpa using h1.2⟩
    · cases hf : firstJ x xs n ys with
      | none => rw [hf] at h; cases h
      | some i =>
        rw [hf] at h
        cases h
        obtain ⟨g1, g2, g3⟩ := firstJ_some hf
        exact ⟨by simpa using g1, by simpa using g2, by simpa using g3⟩
theorem firstJ_none {x : Tx} {xs : List Tx} : ∀ {bs : List Tx}, firstJ x xs (lcs (x :: xs) bs) bs = none → lcs (x :: xs) bs = lcs xs bs := by
  have key : ∀ (bs : List Tx) (n : Nat), n = lcs (x :: xs) bs → n = lcs xs bs ∨ ∃ j, firstJ x xs n bs = some j := by
    intro bs
    induction bs with
    | nil => intro n hn; left; rw [hn, lcs_nil, lcs_nil]
    | cons y ys ih =>
      intro n hn
      by_cases h : x = y
      · subst h
        rw [lcs_eq] at hn
        exact .inr ⟨0, by rw [firstJ, if_pos ⟨rfl, hn.symm⟩]⟩
      · rw [lcs_ne h] at hn
        have h1 := lcs_right y xs ys
        by_cases h2 : n = lcs xs (y :: ys)
        · exact .inl h2
        · have h3 : n = lcs (x :: xs) ys := by omega
          rcases ih n h3 with h4 | ⟨j, h4⟩
          · exact absurd (show n = lcs xs (y :: ys) by omega) h2
          · exact .inr ⟨j + 1, by rw [firstJ, if_neg (fun g => h g.1), h4]; rfl⟩
  intro bs h
  rcases key bs _ rfl with h1 | ⟨j, h1⟩
  · exact h1
  · rw [h] at h1; cases h1
/-- the first of the longest rows of pairs, from places i, k on -/
def midL : List Tx → List Tx → Nat → Nat → List (Nat × Nat)
  | [], _, _, _ => []
  | x :: xs, bs, i, k => match firstJ x xs (lcs (x :: xs) bs) bs with
    | some j => (i, k + j) :: midL xs (bs.drop (j + 1)) (i + 1) (k + j + 1)
    | none => midL xs bs (i + 1) k
theorem midL_length : ∀ (a b : List Tx) (i k : Nat), (midL a b i k).length = lcs a b
  | [], b, i, k => by simp [midL, lcs_nil']
  | x :: xs, bs, i, k => by
    rw [midL]
    cases h : firstJ x xs (lcs (x :: xs) bs) bs with
    | none => simp only; rw [midL_length xs, firstJ_none h]
    | some j =>
      have := (firstJ_some h).2.2
      simp only [List.length_cons]
      rw [midL_length xs, this]
theorem midL_zero {a b : List Tx} {i k : Nat} (h : lcs a b = 0) : midL a b i k = [] := List.eq_nil_of_length_eq_zero (by rw [midL_length, h])
/-- how many texts two lists have alike from their beginnings -/
def headN : List Tx → List Tx → Nat
  | x :: xs, y :: ys => if x = y then headN xs ys + 1 else 0
  | _, _ => 0
theorem headN_le : ∀ (a b : List Tx), headN a b ≤ a.length ∧ headN a b ≤ b.length
  | [], b => ⟨Nat.zero_le _, Nat.zero_le _⟩
  | _ :: _, [] => ⟨Nat.zero_le _, Nat.zero_le _⟩
  | x :: xs, y :: ys => by
    rw [headN]
    have := headN_le xs ys
    split
    · simp only [List.length_cons]; omega
    · exact ⟨Nat.zero_le _, Nat.zero_le _⟩
/-- .. and from their ends, of what is left -/
def tailN (a b : List Tx) : Nat := headN ((a.drop (headN a b)).reverse) ((b.drop (headN a b)).reverse)
def midA (a b : List Tx) : List Tx := (a.take (a.length - tailN a b)).drop (headN a b)
def midB (a b : List Tx) : List Tx := (b.take (b.length - tailN a b)).drop (headN a b)
/-- the match of two lists -/
def matchL (a b : List Tx) : List (Nat × Nat) :=
  (List.range (headN a b)).map (fun i => (i, i)) ++ (if (midA a b).length ≤ 1024 ∧ (midB a b).length ≤ 1024 then midL (midA a b) (midB a b) (headN a b) (headN a b) else []) ++
    (List.range (tailN a b)).map (fun i => (a.length - tailN a b + i, b.length - tailN a b + i))
end Go.Eng

/-
  A walk's engine: calls of function values that bear what they have caught. No condition.
-/
set_option linter.all false
namespace Go.Eng
open Go Go.RowKit
section
variable {P : Program} {ro : Option Nat} {n : Nat} {w0 : World} {Q : Exit → Act → World → Prop} {r : Env} {ds : List Dfr} {m : Mem} {H : SHeap} {ops : Array Oper} {l : List Oper} {d : Nat} {ty : TypeId} {pos : String} {after : Array Edge}
theorem WL.callV {f : FuncId} {fn : Func} {c : Code} {x : Operand} {args : List Operand} {vs cs : List Value} {ts : Array TypeId} {Post : Value → Mem → SHeap → Prop}
    (hx : r.ev x = some (.func (.func f) #[] cs.toArray)) (hf : P.funcs[f]? = some fn) (hname : (fn.name == "runtime.NumGoroutine") = false) (hb : fn.body = some c)
    (hv : r.evs args = some vs) (hd : Nat.blt d n = true) (hs : Does P f (vs ++ cs).toArray w0 m H Post) (h : ∀ v m' H', Post v m' H' → WL P ro n w0 ops Q l ((d, v) :: r) ds m' H') :
    WL P ro n w0 ops Q (⟨some d, .call ⟨.value x, args.toArray, ts⟩, ty, pos, after, none⟩ :: l) r ds m H := by
  refine .enter (fun d' e => by cases e; simpa [Nat.blt_eq] using hd) (fun _ h => by cases h) (fun tmps w ho _ => ?_) hs h
  have e1 := ho.evs (marks ds) hv
  have e2 := ho.ev (ds := marks ds) hx
  have h1 : fn.name ≠ "runtime.NumGoroutine" := by simpa using hname
  have h2 : ∀ a : Array Value, (callFunc f a).run P w = .ok (.enter f a) w := fun a => by simp [callFunc, hf, h1, hb]
  simp only [execOp, resolve, Sem.run_bind, List.map_toArray, e1]
  simp [e2, Deferred.ofValue, invoke, h2, Result.andThen]
end
end Go.Eng

/-
  A walk's engine: values in interfaces: calls of their methods, type assertions. No condition.
-/
set_option linter.all false
namespace Go.Eng
open Go Go.RowKit
section
variable {P : Program} {ro : Option Nat} {n : Nat} {w0 : World} {Q : Exit → Act → World → Prop} {r : Env} {ds : List Dfr} {m : Mem} {H : SHeap} {ops : Array Oper} {l : List Oper} {d : Nat} {ty : TypeId} {pos : String} {after : Array Edge}
/-- the function behind a type's method that is its own, and whether its receiver is a pointer -/
def ownMethod (P : Program) (t : TypeId) (name : String) : Option (FuncId × Bool) :=
  (P.info? t).bind fun i => (i.methods.find? (·.name == name)).bind fun mt => if mt.path.isEmpty then mt.func else none
def ownRecv (P : Program) (t : TypeId) (pr : Bool) : Bool :=
  match P.underlying t, pr with
  | some (.pointer _), true => true
  | some (.pointer _), false => false
  | some _, false => true
  | _, _ => false
def notIface (P : Program) (t : TypeId) : Bool := (P.underlying t).any (fun d => match d with | .interface _ => false | _ => true)
end
end Go.Eng

/-
  A walk's engine: values in interfaces held against nil; values that may be called: a loop's yield, or a closure. No condition.
-/
set_option linter.all false
namespace Go.Eng
open Go Go.RowKit
section
variable {P : Program} {ro : Option Nat} {n : Nat} {w0 : World} {Q : Exit → Act → World → Prop} {r : Env} {ds : List Dfr} {m : Mem} {H : SHeap} {ops : Array Oper} {l : List Oper} {d : Nat} {ty : TypeId} {pos : String} {after : Array Edge}
theorem WQ.persist {e : Exit} {b : Nat} {o : Obj} {H1 : SHeap} (ho : Out (.blk b o) H H1) (h : ∀ m', m.le m' → m' b = some o → WQ n w0 Q e r ds m' H1) : WQ n w0 Q e r ds m H :=
  fun tmps w hok hs => by
    obtain ⟨h1, h2⟩ := (hs.perm ho.perm).persist
    exact h _ h2 (by simp [Mem.ins]) tmps w hok h1
end
/-- a value that may be called in such a state: it hands back true, or false -/
def FnOK (P : Program) (w0 : World) (fv : Value) (vs : List Value) (m : Mem) (H : SHeap) (Jt Jf : Mem → SHeap → Prop) : Prop :=
  ∀ ⦃ro : Option Nat⦄ ⦃n : Nat⦄ ⦃Q : Exit → Act → World → Prop⦄ ⦃r : Env⦄ ⦃ds : List Dfr⦄ ⦃ops : Array Oper⦄ ⦃l : List Oper⦄ ⦃d : Nat⦄ ⦃ty : TypeId⦄ ⦃pos : String⦄ ⦃after : Array Edge⦄ ⦃f : Operand⦄ ⦃args : List Operand⦄ ⦃ts : Array TypeId⦄,
    r.ev f = some fv → r.evs args = some vs → Nat.blt d n = true →
    (∀ m' H', Jt m' H' → WL P ro n w0 ops Q l ((d, .bool true) :: r) ds m' H') → (∀ m' H', Jf m' H' → WL P ro n w0 ops Q l ((d, .bool false) :: r) ds m' H') →
    WL P ro n w0 ops Q (⟨some d, .call ⟨.value f, args.toArray, ts⟩, ty, pos, after, none⟩ :: l) r ds m H
theorem FnOK.yield {P : Program} {w0 : World} {lp : Nat} {vs : List Value} {m : Mem} {H : SHeap} {Jt Jf : Mem → SHeap → Prop} (h : YieldOK P w0 lp vs.toArray m H Jt Jf) : FnOK P w0 (.func (.yield lp) #[] #[]) vs m H Jt Jf :=
  fun ro n Q r ds ops l d ty pos after f args ts hf hv hd ht hn => WL.yield hf hv hd h ht hn
end Go.Eng

/-
  A walk's engine: what package strings' Builder does beneath: pointers as package strings turns them, a library function that is told from outside, a row's bytes as a text. No condition.
-/
set_option linter.all false
namespace Go.Eng
open Go Go.RowKit
section
variable {P : Program} {ro : Option Nat} {n : Nat} {w0 : World} {Q : Exit → Act → World → Prop} {r : Env} {ds : List Dfr} {m : Mem} {H : SHeap} {ops : Array Oper} {l : List Oper} {d : Nat} {ty : TypeId} {pos : String} {after : Array Edge}
def sizedB (P : Program) (t : TypeId) : Bool := (P.info? t).any fun j => j.size != 0
theorem sizedB_ok {t : TypeId} (h : sizedB P t = true) : ∃ j, P.info? t = some j ∧ j.size ≠ 0 := by
  unfold sizedB at h
  cases hi : P.info? t with
  | none => simp [hi] at h
  | some j => simp [hi] at h; exact ⟨j, rfl, h⟩
theorem shape_blk {b : Nat} {L : List Value} {T : TypeId} {fz : Nat × Nat} {w : World} (hm : Item.blk b (.cells L.toArray T fz) ∈ H) (hs : Sat w0 m H w) : w.shape? b = some (T, L.length) := by
  have h : w.heap[b]? = some (.cells L.toArray T fz) := hs.own _ hm
  simp [World.shape?, h]
theorem WL.toUnsafe {src dst t T : TypeId} {x : Operand} {b : Nat} {L : List Value} {fz : Nat × Nat} (hx : r.ev x = some (.pointer (some ⟨b, 0, none⟩))) (hm : Item.blk b (.cells L.toArray T fz) ∈ H) (hL : 0 < L.length)
    (hs : P.underlying src = some (.pointer t)) (hu : P.underlying dst = some .unsafePointer) (ht : sizedB P t = true) (hd : Nat.blt d n = true)
    (h : WL P ro n w0 ops Q l ((d, .pointer (some ⟨b, 0, none⟩)) :: r) ds m H) : WL P ro n w0 ops Q (⟨some d, .convert src dst x, ty, pos, after, none⟩ :: l) r ds m H :=
  .val hd (fun _ h => by cases h) (fun tmps w ho hsat => by
    obtain ⟨j, hj, hj0⟩ := sizedB_ok ht
    have := Lib.run_to_unsafe (P := P) w ⟨b, 0, none⟩ hs hu hj hj0 (shape_blk hm hsat) hL
    simp [execOp, ho.ev hx, this]) h
theorem WL.fromUnsafe {src dst t T : TypeId} {x : Operand} {b : Nat} {L : List Value} {fz : Nat × Nat} (hx : r.ev x = some (.pointer (some ⟨b, 0, none⟩))) (hm : Item.blk b (.cells L.toArray T fz) ∈ H) 
    (hs : P.underlying src = some .unsafePointer) (hu : P.underlying dst = some (.pointer t)) (ht : sizedB P t = true) (hl : liesAt P P.depth T (L.length / P.cellsOf T) 0 t 1 = true) (hd : Nat.blt d n = true)
    (h : WL P ro n w0 ops Q l ((d, .pointer (some ⟨b, 0, none⟩)) :: r) ds m H) : WL P ro n w0 ops Q (⟨some d, .convert src dst x, ty, pos, after, none⟩ :: l) r ds m H :=
  .val hd (fun _ h => by cases h) (fun tmps w ho hsat => by
    obtain ⟨j, hj, hj0⟩ := sizedB_ok ht
    have := Lib.run_from_unsafe (P := P) w ⟨b, 0, none⟩ hs hu hj (shape_blk hm hsat) hl
    simp [execOp, ho.ev hx, this]) h
theorem WL.extern {f : FuncId} {fn : Func} {e : Array Value → Sem Value} {args : List Operand} {vs : List Value} {ts : Array TypeId} {v : Value} (hf : P.funcs[f]? = some fn) (hname : (fn.name == "runtime.NumGoroutine") = false) (hb : fn.body.isNone = true)
    (hn : Extern.findNext fn = none) (he : Extern.find fn = some e) (hv : r.evs args = some vs) (hrun : ∀ w, (e vs.toArray).run P w = .ok v w) (hd : Nat.blt d n = true)
    (h : WL P ro n w0 ops Q l ((d, v) :: r) ds m H) : WL P ro n w0 ops Q (⟨some d, .call ⟨.value (.func f), args.toArray, ts⟩, ty, pos, after, none⟩ :: l) r ds m H :=
  .val hd (fun _ h => by cases h) (fun tmps w ho _ => by
    have e1 := ho.evs (marks ds) hv
    have h2 := run_callFunc_extern hf hname hb hn he vs.toArray w
    rw [hrun] at h2
    simp only [execOp, resolve, Sem.run_bind, List.map_toArray, e1]
    simp [Act.eval, Deferred.ofValue, Go.invoke, h2, Result.andThen]) h
theorem WL.neqSameP {t t' e : TypeId} {x y : Operand} {a : Addr} {j : TypeInfo} (hx : r.ev x = some (.pointer (some a))) (hy : r.ev y = some (.pointer (some a))) (hu : P.underlying t = some (.pointer e)) (hi : P.info? e = some j) (hd : Nat.blt d n = true)
    (h : WL P ro n w0 ops Q l ((d, .bool false) :: r) ds m H) : WL P ro n w0 ops Q (⟨some d, .binOp .neq t x y t', ty, pos, after, none⟩ :: l) r ds m H :=
  .val hd (fun _ h => by cases h) (fun tmps w ho _ => by
    have h1 := Lib.run_neq_ptr_same (P := P) w a hu hi
    have h2 : eqGuard .neq t x y (.pointer (some a)) (.pointer (some a)) = pure () := rfl
    simp [execOp, ho.ev hx, ho.ev hy, h2, h1]) h
theorem WL.sliceData {x : Operand} {a : Option Addr} {len cap : Nat} {ts : Array TypeId} (hx : r.ev x = some (.slice a len cap)) (hc : a = none ∨ 0 < cap) (hd : Nat.blt d n = true)
    (h : WL P ro n w0 ops Q l ((d, .pointer a) :: r) ds m H) : WL P ro n w0 ops Q (⟨some d, .call ⟨.builtin .unsafeSliceData, #[x], ts⟩, ty, pos, after, none⟩ :: l) r ds m H :=
  .val hd (fun _ h => by cases h) (fun tmps w ho _ => by
    have h1 : (Builtin.unsafeSliceData_ ts ty #[.slice a len cap]).run P w = .ok (.pointer a) w := by
      cases a with
      | none => rfl
      | some a =>
        have h0 : cap ≠ 0 := by
          rcases hc with h | h
          · cases h
          · omega
        exact Lib.run_unsafeSliceData_row w _ _ _ _ _ h0
    simp only [execOp, resolve, Go.invoke, Go.builtin, Sem.run_bind, Sem.run_pure, Result.andThen_ok, List.map_toArray, List.map_cons, List.map_nil, ho.ev hx]
    simp [h1]) h
def isSD : Op → Bool
  | .call ⟨.builtin .unsafeSliceData, _, _⟩ => true
  | _ => false
theorem iSD {dst : Option Nat} {op : Op} (_hk : isSD op = true) (h : WL P ro n w0 ops Q (⟨dst, op, ty, pos, after, none⟩ :: l) r ds m H) : WL P ro n w0 ops Q (⟨dst, op, ty, pos, after, none⟩ :: l) r ds m H := h
/-- a byte row's items -/
def bCs (s : List UInt8) : List (List Value) := s.map fun b => [Value.int .u8 (b.toNat : Int)]
theorem bCs_length (s : List UInt8) : (bCs s).length = s.length := by simp [bCs]
end
end Go.Eng

/-
  A walk's engine: iterators that may let memory grow between their calls of yield: what a loop over them keeps must hold in memory that has grown. No condition.
-/
set_option linter.all false
namespace Go.Eng
open Go Go.RowKit
/-- an iterator whose own memory may grow: it hands over xs, one after the other, as long as it is told to go on -/
def SeqM {α : Type} (P : Program) (gf : FuncId) (lb : List Value) (encs : α → List Value) (xs : List α) (Cap : Mem → Prop) : Prop :=
  ∀ (w0 : World) (l : Nat) (J Jx : List α → Mem → SHeap → Prop) (m : Mem) (H : SHeap), (∀ pre m m' H, J pre m H → m.le m' → J pre m' H) → (∀ pre m m' H, Jx pre m H → m.le m' → Jx pre m' H) → Cap m → J [] m H →
    (∀ pre x post, xs = pre ++ x :: post → ∀ m1 H1 Hit, J pre m1 H1 → m.le m1 →
      YieldOK P w0 l (encs x).toArray m1 (Hit ++ H1) (fun m' H' => ∃ H2, H' = Hit ++ H2 ∧ J (pre ++ [x]) m' H2 ∧ m1.le m') (fun m' H' => ∃ H2, H' = Hit ++ H2 ∧ Jx (pre ++ [x]) m' H2 ∧ m1.le m')) →
    Does P gf (.func (.yield l) #[] #[] :: lb).toArray w0 m H (fun _ m' H' => m.le m' ∧ (J xs m' H' ∨ ∃ pre, pre <+: xs ∧ Jx pre m' H'))
theorem SeqC.m {α : Type} {P : Program} {gf : FuncId} {lb : List Value} {encs : α → List Value} {xs : List α} {Cap : Mem → Prop} (h : SeqC P gf lb encs xs Cap) : SeqM P gf lb encs xs Cap :=
  fun w0 l J Jx m H _ _ hc h0 hy => h w0 l J Jx m H hc h0 hy
section
variable {P : Program} {ro : Option Nat} {n : Nat} {w0 : World} {Q : Exit → Act → World → Prop} {r : Env} {ds : List Dfr} {m : Mem} {H : SHeap}
  {ops : Array Oper} {l : List Oper} {d : Nat} {ty : TypeId} {pos : String} {after : Array Edge}
theorem range_coreM {α : Type} {gf : FuncId} {lb : List Value} {encs : α → List Value} {xs : List α} {Cap : Mem → Prop} {ps : List Nat} {assign body : Code} {fnd : FuncId} {tmps : Array Value} {L D : Nat} {Hb : SHeap}
    (hseq : SeqM P gf lb encs xs Cap) (hcap : Cap m) (hps : ∀ x, (encs x).length = ps.length) (hpn : ∀ p ∈ ps, p < n) (hok : r.ok n tmps)
    (J : List α → Mem → SHeap → Prop) (Jx : Code → List α → Mem → SHeap → Prop) (hmJ : ∀ pre m m' Hl, J pre m Hl → m.le m' → J pre m' Hl) (hmX : ∀ c pre m m' Hl, Jx c pre m Hl → m.le m' → Jx c pre m' Hl) {Hl0 : SHeap} (h0 : J [] m Hl0)
    (hround : ∀ lp pre x post, xs = pre ++ x :: post → ∀ m1 Hl, J pre m1 Hl → m.le m1 → ∀ Hfr, (∃ rec, Item.blk lp (.loop rec) ∈ Hfr ∧ rec.defers = D) → WC P (some lp) n w0 assign (QAssign P n w0 lp body J Jx (pre ++ [x]) m1 Hfr) (Env.given ps (encs x) r) [] m1 (Hl ++ Hfr))
    {w : World} (hs : Sat w0 m (.blk L (.loop { state := .ready, pending := none, fn := fnd, tmps := tmps, params := ps.toArray, assign := assign, body := body, defers := D }) :: (Hl0 ++ Hb)) w) :
    CallsIn (FW none) 0 P gf (.func (.yield L) #[] #[] :: lb).toArray w fun e w' => ∃ v m', e = .returned v ∧ m.le m' ∧
      ((∃ Hl, J xs m' Hl ∧ Sat w0 m' (.blk L (.loop { state := .ready, pending := none, fn := fnd, tmps := tmps, params := ps.toArray, assign := assign, body := body, defers := D }) :: (Hl ++ Hb)) w') ∨
       (∃ c pre Hl, pre <+: xs ∧ Jx c pre m' Hl ∧ Sat w0 m' (.blk L (.loop { state := .done, pending := some c, fn := fnd, tmps := tmps, params := ps.toArray, assign := assign, body := body, defers := D }) :: (Hl ++ Hb)) w')) := by
  obtain ⟨rec, hrec⟩ : ∃ rec : LoopState → Option Code → Loop, rec = fun st pe => { state := st, pending := pe, fn := fnd, tmps := tmps, params := ps.toArray, assign := assign, body := body, defers := D } := ⟨_, rfl⟩
  have hs1 : Sat w0 m (.blk L (.loop (rec .ready none)) :: (Hl0 ++ Hb)) w := by rw [hrec]; exact hs
  have := hseq w0 L (fun pre m H => ∃ Hl, H = .blk L (.loop (rec .ready none)) :: (Hl ++ Hb) ∧ J pre m Hl)
    (fun pre m H => ∃ c Hl, H = .blk L (.loop (rec .done (some c))) :: (Hl ++ Hb) ∧ Jx c pre m Hl) m _ (fun _ _ _ _ ⟨Hl, e, h⟩ hm => ⟨Hl, e, hmJ _ _ _ _ h hm⟩) (fun _ _ _ _ ⟨c, Hl, e, h⟩ hm => ⟨c, Hl, e, hmX _ _ _ _ _ h hm⟩) hcap ⟨Hl0, rfl, h0⟩ ?_ w hs1
  · refine this.mono ?_
    rintro e w' ⟨v, m', H', rfl, ⟨hle, hP⟩, hs'⟩
    refine ⟨v, m', rfl, hle, ?_⟩
    rcases hP with ⟨Hl, rfl, hJ⟩ | ⟨pre, hpre, c, Hl, rfl, hJ⟩
    · exact .inl ⟨Hl, hJ, by rw [hrec] at hs'; exact hs'⟩
    · exact .inr ⟨c, pre, Hl, hpre, hJ, by rw [hrec] at hs'; exact hs'⟩
  · rintro pre x post hx m1 H1 Hit ⟨Hl, rfl, hJ⟩ hle W hW
    have hL : W.heap[L]? = some (.loop (rec .ready none)) := hW.own (.blk L _) (by simp)
    have hy := run_yield (P := P) (args := (encs x).toArray) hL (by rw [hrec]; simp [hps x])
    refine ⟨fnd, (ps.zip (encs x)).foldl (fun t (p : Nat × Value) => t.setIfInBounds p.1 p.2) tmps, assign, body, ?_, roundIn_of_wpIn (FW_fn none fnd) ?_⟩
    · rw [hy, hrec]
      congr 2
      simp
    · have hsat1 := hW.perm (perm_round Hit (.blk L (.loop (rec .ready none))) Hl Hb)
      have hr := hround L pre x post hx m1 Hl hJ hle (.blk L (.loop (rec .ready none)) :: (Hb ++ Hit)) ⟨_, List.mem_cons_self, by rw [hrec]⟩ _ W (hok.given ps (encs x) hpn) hsat1
      refine wpIn_mono hr ?_
      intro e a1 W1 hq
      cases e with
      | normal =>
        obtain ⟨r1, m2, Hl1, hok1, hdf, hs2, hle2, hbody⟩ := hq
        have hs2' := hs2.perm (List.perm_middle (a := Item.blk L (.loop (rec .ready none))) (l₁ := Hl1) (l₂ := Hb ++ Hit))
        have hL1 : W1.heap[L]? = some (.loop (rec .ready none)) := hs2'.own _ List.mem_cons_self
        refine ⟨_, run_beginRound hL1 (by rw [hrec]), ?_⟩
        have hs3 := (hs2'.putObj (o' := .loop { rec .ready none with state := .busy })).perm (List.perm_middle (a := Item.blk L (.loop { rec .ready none with state := .busy })) (l₁ := Hl1) (l₂ := Hb ++ Hit)).symm
        obtain ⟨tm1, df1⟩ := a1
        simp only at hdf
        subst hdf
        refine wpIn_mono (hbody (.blk L (.loop { rec .ready none with state := .busy }) :: (Hb ++ Hit)) ⟨_, List.mem_cons_self⟩ tm1 _ hok1 hs3) ?_
        have fin : ∀ (jump : Option Code) (m3 : Mem) (Hl3 : SHeap) (W3 : World), Sat w0 m3 (Hl3 ++ (.blk L (.loop { rec .ready none with state := .busy }) :: (Hb ++ Hit))) W3 →
            ∃ w4, (Instr.endRound L jump).run P W3 = .ok (.bool jump.isNone) w4 ∧ Sat w0 m3 (Hit ++ (.blk L (.loop (rec (if jump.isNone then .ready else .done) jump)) :: (Hl3 ++ Hb))) w4 := by
          intro jump m3 Hl3 W3 hs4
          have hs5 := hs4.perm (List.perm_middle (a := Item.blk L (.loop { rec .ready none with state := .busy })) (l₁ := Hl3) (l₂ := Hb ++ Hit))
          have hL3 : W3.heap[L]? = some (.loop { rec .ready none with state := .busy }) := hs5.own _ List.mem_cons_self
          refine ⟨_, run_endRound jump hL3, ?_⟩
          have hs6 := hs5.putObj (o' := .loop { { rec .ready none with state := .busy } with state := if jump.isNone then .ready else .done, pending := jump })
          have e1 : ({ { rec .ready none with state := .busy } with state := if jump.isNone then .ready else .done, pending := jump } : Loop) = rec (if jump.isNone then .ready else .done) jump := by rw [hrec]
          rw [e1] at hs6
          rw [e1]
          exact hs6.perm ((List.perm_middle (a := Item.blk L (.loop (rec (if jump.isNone then .ready else .done) jump))) (l₁ := Hl3) (l₂ := Hb ++ Hit)).symm.trans (perm_round Hit _ Hl3 Hb).symm)
        intro e3 a3 W3 hq3
        cases e3 with
        | normal =>
          obtain ⟨m3, Hl3, hJ3, hle3, hs4⟩ := hq3
          obtain ⟨w4, h4, hs5⟩ := fin none m3 Hl3 W3 hs4
          exact ⟨_, w4, h4, .inl ⟨rfl, m3, _, ⟨_, rfl, ⟨Hl3, rfl, hJ3⟩, hle3⟩, hs5⟩⟩
        | ret =>
          obtain ⟨m3, Hl3, hJ3, hle3, hs4⟩ := hq3
          obtain ⟨w4, h4, hs5⟩ := fin (some .ret) m3 Hl3 W3 hs4
          exact ⟨_, w4, h4, .inr ⟨rfl, m3, _, ⟨_, rfl, ⟨.ret, Hl3, rfl, hJ3⟩, hle3⟩, hs5⟩⟩
        | exit id =>
          obtain ⟨m3, Hl3, hJ3, hle3, hs4⟩ := hq3
          obtain ⟨w4, h4, hs5⟩ := fin (some (.exit id)) m3 Hl3 W3 hs4
          exact ⟨_, w4, h4, .inr ⟨rfl, m3, _, ⟨_, rfl, ⟨.exit id, Hl3, rfl, hJ3⟩, hle3⟩, hs5⟩⟩
        | goto t =>
          obtain ⟨m3, Hl3, hJ3, hle3, hs4⟩ := hq3
          obtain ⟨w4, h4, hs5⟩ := fin (some (.goto t)) m3 Hl3 W3 hs4
          exact ⟨_, w4, h4, .inr ⟨rfl, m3, _, ⟨_, rfl, ⟨.goto t, Hl3, rfl, hJ3⟩, hle3⟩, hs5⟩⟩
        | panic ch => exact hq3.elim
        | outgrown => exact hq3.elim
      | _ => exact hq.elim
theorem WC.rangeFuncM {α : Type} {g : Operand} {gf : FuncId} {fn : Func} {cb : Code} {lb : List Value} {encs : α → List Value} {xs : List α} {Cap : Mem → Prop} {ps : List Nat} {assign body : Code} {Hl0 Hc : SHeap}
    (hg : r.ev g = some (.func (.func gf) #[] lb.toArray)) (hf : P.funcs[gf]? = some fn) (hname : (fn.name == "runtime.NumGoroutine") = false) (hb : fn.body = some cb)
    (hseq : SeqM P gf lb encs xs Cap) (hcap : Cap m) (hps : ∀ x, (encs x).length = ps.length) (hpn : ps.all (fun p => Nat.blt p n) = true)
    (J : List α → Mem → SHeap → Prop) (Jx : Code → List α → Mem → SHeap → Prop) (hmJ : ∀ pre m m' Hl, J pre m Hl → m.le m' → J pre m' Hl) (hmX : ∀ c pre m m' Hl, Jx c pre m Hl → m.le m' → Jx c pre m' Hl) (ht : Tail Hc H Hl0) (h0 : J [] m Hl0)
    (hround : ∀ lp pre x post, xs = pre ++ x :: post → ∀ m1 Hl, J pre m1 Hl → m.le m1 → ∀ Hfr, (∃ rec, Item.blk lp (.loop rec) ∈ Hfr) → WC P (some lp) n w0 assign (QAssign P n w0 lp body J Jx (pre ++ [x]) m1 Hfr) (Env.given ps (encs x) r) [] m1 (Hl ++ Hfr))
    (hdone : ∀ (D : Nat) m' Hl, J xs m' Hl → m.le m' → WQ n w0 Q .normal r (D :: ds) m' (Hl ++ (.blk D (.deferred (some [])) :: Hc)))
    (hstop : ∀ (D : Nat) c pre m' Hl, pre <+: xs → Jx c pre m' Hl → m.le m' → WC P none n w0 c Q r (D :: ds) m' (Hl ++ (.blk D (.deferred (some [])) :: Hc))) :
    WC P none n w0 (.rangeFunc g ps.toArray assign body) Q r ds m H := by
  intro tmps w ho hs
  rw [ht.eq] at hs
  have hpn' : ∀ p ∈ ps, p < n := fun p hp => by have := List.all_eq_true.1 hpn p hp; simpa [Nat.blt_eq] using this
  have h1 : fn.name ≠ "runtime.NumGoroutine" := by simpa using hname
  have h2 : ∀ (a : Array Value) (w : World), (callFunc gf a).run P w = .ok (.enter gf a) w := fun a w => by simp [callFunc, hf, h1, hb]
  refine wpIn_rangeFunc (fun fnd _ => ?_)
  have hs1 := (hs.alloc (.deferred (some []))).alloc (.loop { state := .ready, pending := none, fn := fnd, tmps := tmps, params := ps.toArray, assign := assign, body := body, defers := w.heap.size })
  rw [World.size_alloc] at hs1
  have hs2 := hs1.perm (List.Perm.cons _ (List.perm_middle (a := Item.blk w.heap.size (.deferred (some []))) (l₁ := Hl0) (l₂ := Hc)).symm)
  have hcall := range_coreM (P := P) hseq hcap hps hpn' ho J Jx hmJ hmX h0 (fun lp pre x post hx m1 Hl hJ hle Hfr ⟨rec, hr, _⟩ => hround lp pre x post hx m1 Hl hJ hle Hfr ⟨rec, hr⟩) hs2
  have henter := run_enterLoop_outer (P := P) (w := w) fnd tmps ps.toArray assign body
  generalize (w.alloc (.deferred (some []))).alloc (.loop { state := .ready, pending := none, fn := fnd, tmps := tmps, params := ps.toArray, assign := assign, body := body, defers := w.heap.size }) = W1 at henter hcall
  refine ⟨w.heap.size + 1, [{ target := .collected w.heap.size, args := #[] }], W1, { target := .fn (.func gf) lb.toArray, args := #[.func (.yield (w.heap.size + 1)) #[] #[]] }, W1, gf, (.func (.yield (w.heap.size + 1)) #[] #[] :: lb).toArray, W1,
    henter, ?_, fun f _ => FW_fn none f, ?_, FW_depth none, ?_⟩
  · have e0 : ∀ v, (Act.mk tmps (marks ds)).eval (.const v) = v := fun _ => rfl
    simp [resolve, ho.ev hg, e0, Deferred.ofValue]
  · simp [invoke, h2]
  · have hc : CallsIn (FW none) (0 - 1) P gf (.func (.yield (w.heap.size + 1)) #[] #[] :: lb).toArray _ _ := hcall
    refine hc.mono ?_
    rintro e w' ⟨v, m', rfl, hle, (⟨Hl, hJ, hs3⟩ | ⟨c, pre, Hl, hpre, hJ, hs3⟩)⟩
    · obtain ⟨w4, h4, hs4⟩ := end_loop (P := P) hs3 (by simp)
      exact ⟨none, w4, h4, hdone _ m' Hl hJ hle tmps w4 ho hs4⟩
    · obtain ⟨w4, h4, hs4⟩ := end_loop (P := P) hs3 (by simp)
      exact ⟨some c, w4, h4, hstop _ c pre m' Hl hpre hJ hle tmps w4 ho hs4⟩
end
end Go.Eng

/-
  A walk's engine: contracts that are told of worlds, as contracts of the engine. No condition.
-/
set_option linter.all false
namespace Go.Eng
open Go Go.RowKit
theorem Does.ofSame {P : Program} {f : FuncId} {args : Array Value} {w0 : World} {m : Mem} {H : SHeap} {v : Value} (h : ∀ w, Sat w0 m H w → Calls P f args w fun e w' => e = .returned v ∧ w' = w) : Does P f args w0 m H (Gives v m H) :=
  fun w hs => (callsIn_wide.2 (h w hs)).mono fun _ _ ⟨he, hw⟩ => ⟨v, m, H, he, ⟨rfl, rfl, rfl⟩, by subst hw; exact hs⟩
theorem Does.ofBelow {P : Program} {f : FuncId} {args : Array Value} {w0 : World} {m : Mem} {H : SHeap} {v : Value} (h : ∀ w, Sat w0 m H w → Calls P f args w fun e w' => e = .returned v ∧ Below w.heap.size w w') : Does P f args w0 m H (Gives v m H) :=
  fun w hs => (callsIn_wide.2 (h w hs)).mono fun _ _ ⟨he, hw⟩ => ⟨v, m, H, he, ⟨rfl, rfl, rfl⟩, hs.below_keep hw⟩
/-- a variable of the library's holds some number -/
def GInt (g : Nat) (m : Mem) : Prop := ∃ cs T fz z, m g = some (.cells cs T fz) ∧ cs[0]? = some (.int .i64 z)
theorem GInt.le {g : Nat} {m m' : Mem} (h : GInt g m) (hm : m.le m') : GInt g m' := by
  obtain ⟨cs, T, fz, z, h1, h2⟩ := h
  exact ⟨cs, T, fz, z, hm _ _ h1, h2⟩
theorem GInt.cell {g : Nat} {m : Mem} {w0 w : World} {H : SHeap} (h : GInt g m) (hs : Sat w0 m H w) : ∃ z, w.cell? ⟨g, 0, none⟩ = some (.int .i64 z) := by
  obtain ⟨cs, T, fz, z, h1, h2⟩ := h
  exact ⟨z, by simp [World.cell?, hs.pers _ _ h1, h2]⟩
end Go.Eng

/-
  A walk's engine: what a loop over a function keeps in front of a frame; leaving such a loop. No condition.
-/
set_option linter.all false
namespace Go.Eng
open Go Go.RowKit
theorem Tail.app {Hfr : SHeap} : ∀ {H : SHeap}, Tail Hfr (H ++ Hfr) H
  | [] => .nil
  | _ :: _ => .cons Tail.app
theorem Tail.all {H : SHeap} : Tail [] H H := by
  have := Tail.app (Hfr := []) (H := H)
  rwa [List.append_nil] at this
theorem drops_app {w0 w : World} {m : Mem} : ∀ {X H : SHeap}, Sat w0 m (X ++ H) w → Sat w0 m H w
  | [], _, h => h
  | _ :: _, _, h => drops_app (h.drop)
theorem perm_frame (X H1 F : SHeap) : List.Perm (X ++ (H1 ++ F)) ((X ++ F) ++ H1) := by
  rw [List.append_assoc]
  exact List.Perm.append_left X List.perm_append_comm
section
variable {P : Program} {ro : Option Nat} {n : Nat} {w0 : World} {Q : Exit → Act → World → Prop} {r : Env} {ds : List Dfr} {m : Mem} {H : SHeap}
theorem WC.heap {c : Code} {H' : SHeap} (hh : ∀ w, Sat w0 m H w → Sat w0 m H' w) (h : WC P ro n w0 c Q r ds m H') : WC P ro n w0 c Q r ds m H := fun tmps w ho hs => h tmps w ho (hh w hs)
theorem WQ.heapX {e : Exit} {H' : SHeap} (hh : ∀ w, Sat w0 m H w → Sat w0 m H' w) (h : WQ n w0 Q e r ds m H') : WQ n w0 Q e r ds m H := fun tmps w ho hs => h tmps w ho (hh w hs)
end
end Go.Eng

/-
  A walk's engine, nineteenth part: arrays by their address: elements, slices of them, and what is copied there. No condition.
-/
set_option linter.all false
namespace Go.Eng
open Go Go.RowKit
section
variable {P : Program} {ro : Option Nat} {n : Nat} {w0 : World} {Q : Exit → Act → World → Prop} {r : Env} {ds : List Dfr} {m : Mem} {H : SHeap}
  {ops : Array Oper} {l : List Oper} {d : Nat} {ty : TypeId} {pos : String} {after : Array Edge} {t t' : TypeId} {x y : Operand}
theorem WL.indexAddrA {e : TypeId} {b o k sz i q : Nat} {ki : IntKind} {z : Int} (hx : r.ev x = some (.pointer (some ⟨b, o, none⟩))) (hy : r.ev y = some (.int ki z)) (hz : z = (i : Int)) (hu : P.underlying t = some (.array k e)) (hsz : sizeB P e = some sz)
    (hi : i < k) (hd : Nat.blt d n = true) (hq : lit (o + i * sz) = some q) (h : WL P ro n w0 ops Q l ((d, .pointer (some ⟨b, q, none⟩)) :: r) ds m H) :
    WL P ro n w0 ops Q (⟨some d, .indexAddr t x y, ty, pos, after, none⟩ :: l) r ds m H := by
  rw [lit_eq] at hq
  have hq := Option.some.inj hq
  subst hz; subst hq
  refine .val hd (fun _ h => by cases h) (fun tmps w ho _ => ?_) h
  have h1 : (0 : Int) ≤ (i : Int) ∧ (i : Int) < (k : Int) := by omega
  simp only [execOp, Instr.indexAt, asIntOf, Instr.sureAddr, ho.ev hx, ho.ev hy, Sem.run_bind, Sem.run_pure, Result.andThen_ok, run_underlying hu]
  simp [h1, run_size hsz, add_none]
end
section
variable {P : Program} {ro : Option Nat} {n : Nat} {w0 : World} {Q : Exit → Act → World → Prop} {r : Env} {ds : List Dfr} {m : Mem} {H : SHeap} {ops : Array Oper} {l : List Oper}
theorem WL.heap {H' : SHeap} (hh : ∀ w, Sat w0 m H w → Sat w0 m H' w) (h : WL P ro n w0 ops Q l r ds m H') : WL P ro n w0 ops Q l r ds m H := fun tmps w ho hs => h tmps w ho (hh w hs)
end
theorem all_cons {α : Type} {p : α → Prop} {a : α} {l : List α} (h : p a) (k : ∀ x ∈ l, p x) : ∀ x ∈ a :: l, p x := fun x hx => by
  rcases List.mem_cons.1 hx with rfl | hx
  · exact h
  · exact k x hx
theorem Acts.mk {P : Program} {ro : Option Nat} {n : Nat} {w0 : World} {l : List Oper} {g : Nat} {ds : List Dfr} {K : Env → Mem → SHeap → SHeap → Prop} {k V : Nat} {r : Env} {m : Mem} {S U : SHeap} {i : Nat} {o : Oper} {d : Nat} (ho : l[i]? = some o) (hd : o.dst = some d) (hnd : ∀ c, o.op ≠ .defer c)
    (h : WL P ro n w0 l.toArray (QE w0 d ds S m fun v m' S' U' => WE P ro n w0 l g ds K k (V ||| 1 <<< i) ((d, v) :: r) m' S' U') [o] (Env.sel (o.looksAt l.toArray) r) ds m (S ++ U)) : Acts P ro n w0 l g ds K k V r m S U i := ⟨o, d, ho, hd, hnd, h⟩
end Go.Eng

/-
  The walks of word.bare, joint, dot. No condition.
-/
namespace Go.Proofs.Ytgckeelnhafgaaa
open Go Go.Eng
set_option maxRecDepth 100000
set_option maxHeartbeats 4000000
set_option linter.all false
attribute [local irreducible] WL WC WQ QFun QLoop Does Q1 QRound QAssign Go.Addr.add
theorem bare_any (k : Nat) (w0 : World) (m : Mem) (H : SHeap) : Does Try.prog 59 #[.int .i64 (k : Int)] w0 m H (Gives (.bool (decide (bareK k))) m H) := by
  refine Does.of_body (args := [.int .i64 (k : Int)]) Try.func59 rfl Try.ntmps59 rfl ?_
  by_cases h1 : k = 11
  · (try (refine st ?_; intros))
    (refine q_fin0 ?_)
    exact Gives.mk (congrArg _ (by simp [dcd_eq, bareK, h1] <;> omega))
  by_cases h2 : k = 4
  · (try (refine st ?_; intros))
    (refine q_fin0 ?_)
    exact Gives.mk (congrArg _ (by simp [dcd_eq, bareK, h1, h2] <;> omega))
  by_cases h3 : k = 9
  · (try (refine st ?_; intros))
    (refine q_fin0 ?_)
    exact Gives.mk (congrArg _ (by simp [dcd_eq, bareK, h1, h2, h3] <;> omega))
  · (try (refine st ?_; intros))
    (refine q_fin0 ?_)
    exact Gives.mk (congrArg _ (by simp [dcd_eq, bareK, h1, h2, h3] <;> omega))
theorem joint_any (u : Un) (w0 : World) (m : Mem) (H : SHeap) : Does Try.prog 60 #[u.v] w0 m H (Gives (.bool (decide (jointU u))) m H) := by
  unfold Un.v Un.cs
  refine Does.of_body (args := [.agg #[.int .i64 (u.k : Int), .int .i32 (u.r : Int), .int .i64 (u.a : Int), .int .i64 (u.z : Int), .bool u.o]]) Try.func60 rfl Try.ntmps60 rfl ?_
  by_cases h1 : u.r = 39
  · (try (refine st ?_; intros))
    (refine q_fin0 ?_)
    exact Gives.mk (congrArg _ (by simp [dcd_eq, jointU, h1] <;> omega))
  by_cases h2 : u.r = 8217
  · (try (refine st ?_; intros))
    (refine q_fin0 ?_)
    exact Gives.mk (congrArg _ (by simp [dcd_eq, jointU, h2] <;> omega))
  by_cases h3 : u.r = 45
  · (try (refine st ?_; intros))
    (refine q_fin0 ?_)
    exact Gives.mk (congrArg _ (by simp [dcd_eq, jointU, h3] <;> omega))
  by_cases h4 : u.r = 8208
  · (try (refine st ?_; intros))
    (refine q_fin0 ?_)
    exact Gives.mk (congrArg _ (by simp [dcd_eq, jointU, h4] <;> omega))
  · (try (refine st ?_; intros))
    (refine q_fin0 ?_)
    exact Gives.mk (congrArg _ (by simp [dcd_eq, jointU, h1, h2, h3, h4] <;> omega))
theorem dot_any (u : Un) (w0 : World) (m : Mem) (H : SHeap) : Does Try.prog 61 #[u.v] w0 m H (Gives (.bool (decide (dotU u))) m H) := by
  unfold Un.v Un.cs
  refine Does.of_body (args := [.agg #[.int .i64 (u.k : Int), .int .i32 (u.r : Int), .int .i64 (u.a : Int), .int .i64 (u.z : Int), .bool u.o]]) Try.func61 rfl Try.ntmps61 rfl ?_
  cases ho : u.o with
  | false =>
    (try (refine st ?_; intros))
    (refine q_fin0 ?_)
    exact Gives.mk (congrArg _ (by simp [dcd_eq, dotU, ho] <;> omega))
  | true =>
    by_cases h1 : u.r = 44
    · (try (refine st ?_; intros))
      (refine q_fin0 ?_)
      exact Gives.mk (congrArg _ (by simp [dcd_eq, dotU, h1, ho] <;> omega))
    by_cases h2 : u.r = 46
    · (try (refine st ?_; intros))
      (refine q_fin0 ?_)
      exact Gives.mk (congrArg _ (by simp [dcd_eq, dotU, h2, ho] <;> omega))
    · (try (refine st ?_; intros))
      (refine q_fin0 ?_)
      exact Gives.mk (congrArg _ (by simp [dcd_eq, dotU, h1, h2] <;> omega))
end Go.Proofs.Ytgckeelnhafgaaa

/-
  The walk of the iterator of units. No condition.
-/
namespace Go.Proofs.Ytgckeelnhafgaaa
open Go Go.Eng
set_option maxRecDepth 100000
set_option maxHeartbeats 4000000
set_option linter.all false
attribute [local irreducible] WL WC WQ QFun QLoop Does Q1 QRound QAssign Go.Addr.add
attribute [local irreducible] Wide kindN kindP colP readP pieces dl from_ uGo
theorem units_any (l : List UInt8) (w0 : World) (m : Mem) (H : SHeap) : Does Try.prog 42 #[str l] w0 m H (IterOf 56 l m H) := by
  refine Does.of_body (args := [str l]) Try.func42 rfl Try.ntmps42 rfl ?_
  (try (refine st ?_; intros))
  apply WQ.fin
  · (first | (apply res_tmp; (· exact rfl); (· exact rfl)) | (apply res_cell; (· exact rfl); (· exact rfl); (· (first | (apply Loads.one; (· exact rfl); (· first | (apply Cell.blk; (· (repeat (first | exact List.Mem.head _ | apply List.Mem.tail))); (· exact rfl)) | (apply Cell.mem; (· assumption); (· exact rfl)))) | (apply Loads.whole; (· exact rfl); (· exact rfl); (· (repeat (first | exact List.Mem.head _ | apply List.Mem.tail))); (· exact rfl)) | (apply Loads.blk; (· exact rfl); (· exact rfl); (· (repeat (first | exact List.Mem.head _ | apply List.Mem.tail))); (· (repeat (first | exact Seg.nil | (apply Seg.cons; (· exact rfl)))))) | (apply Loads.row; (· (repeat (first | exact List.Mem.head _ | apply List.Mem.tail))); (first | (rotate_left; (· exact rfl); rotate_right; (· assumption)) | ((· assumption); (· exact rfl))); (· exact rfl); (· exact rfl); (· exact rfl)) | (apply Loads.row1; (· (repeat (first | exact List.Mem.head _ | apply List.Mem.tail))); (first | (rotate_left; (· exact rfl); rotate_right; (· assumption)) | ((· assumption); (· exact rfl))); (· exact rfl)) | (apply Loads.rowF; (· (repeat (first | exact List.Mem.head _ | apply List.Mem.tail))); (first | (rotate_left; (· exact rfl); rotate_right; (· assumption)) | ((· assumption); (· exact rfl))); (· exact rfl); (· exact rfl)) | (apply Loads.prow; (· assumption); (first | (rotate_left; (· exact rfl); rotate_right; (· assumption)) | ((· assumption); (· exact rfl))); (· exact rfl); (· exact rfl); (· exact rfl)) | (apply Loads.prow1; (· assumption); (first | (rotate_left; (· exact rfl); rotate_right; (· assumption)) | ((· assumption); (· exact rfl))); (· exact rfl)) | (apply Loads.prowF; (· assumption); (first | (rotate_left; (· exact rfl); rotate_right; (· assumption)) | ((· assumption); (· exact rfl))); (· exact rfl); (· exact rfl)) | (apply Loads.rrow; (· assumption); (first | (rotate_left; (· exact rfl); rotate_right; (· assumption)) | ((· assumption); (· exact rfl))); (· exact rfl); (· exact rfl); (· exact rfl)) | (apply Loads.rrow1; (· assumption); (first | (rotate_left; (· exact rfl); rotate_right; (· assumption)) | ((· assumption); (· exact rfl))); (· exact rfl)) | (apply Loads.rrowF; (· assumption); (first | (rotate_left; (· exact rfl); rotate_right; (· assumption)) | ((· assumption); (· exact rfl))); (· exact rfl); (· exact rfl)) | (apply Loads.rowS; (· (repeat (first | exact List.Mem.head _ | apply List.Mem.tail))); (first | (rotate_left; (· exact rfl); rotate_right; (· assumption)) | ((· assumption); (· exact rfl))); (· exact rfl); (· exact rfl); (· (repeat (first | exact Seg.nil | (apply Seg.cons; (· exact rfl))))))))) | (apply res_none; exact rfl) | (apply res_many; (· exact rfl); (· repeat (first | exact ResAll.nil | (apply ResAll.tmp; (· exact rfl)) | (apply ResAll.cell; (· exact rfl); (· (first | (apply Loads.one; (· exact rfl); (· first | (apply Cell.blk; (· (repeat (first | exact List.Mem.head _ | apply List.Mem.tail))); (· exact rfl)) | (apply Cell.mem; (· assumption); (· exact rfl)))) | (apply Loads.whole; (· exact rfl); (· exact rfl); (· (repeat (first | exact List.Mem.head _ | apply List.Mem.tail))); (· exact rfl)) | (apply Loads.blk; (· exact rfl); (· exact rfl); (· (repeat (first | exact List.Mem.head _ | apply List.Mem.tail))); (· (repeat (first | exact Seg.nil | (apply Seg.cons; (· exact rfl)))))) | (apply Loads.row; (· (repeat (first | exact List.Mem.head _ | apply List.Mem.tail))); (first | (rotate_left; (· exact rfl); rotate_right; (· assumption)) | ((· assumption); (· exact rfl))); (· exact rfl); (· exact rfl); (· exact rfl)) | (apply Loads.row1; (· (repeat (first | exact List.Mem.head _ | apply List.Mem.tail))); (first | (rotate_left; (· exact rfl); rotate_right; (· assumption)) | ((· assumption); (· exact rfl))); (· exact rfl)) | (apply Loads.rowF; (· (repeat (first | exact List.Mem.head _ | apply List.Mem.tail))); (first | (rotate_left; (· exact rfl); rotate_right; (· assumption)) | ((· assumption); (· exact rfl))); (· exact rfl); (· exact rfl)) | (apply Loads.prow; (· assumption); (first | (rotate_left; (· exact rfl); rotate_right; (· assumption)) | ((· assumption); (· exact rfl))); (· exact rfl); (· exact rfl); (· exact rfl)) | (apply Loads.prow1; (· assumption); (first | (rotate_left; (· exact rfl); rotate_right; (· assumption)) | ((· assumption); (· exact rfl))); (· exact rfl)) | (apply Loads.prowF; (· assumption); (first | (rotate_left; (· exact rfl); rotate_right; (· assumption)) | ((· assumption); (· exact rfl))); (· exact rfl); (· exact rfl)) | (apply Loads.rrow; (· assumption); (first | (rotate_left; (· exact rfl); rotate_right; (· assumption)) | ((· assumption); (· exact rfl))); (· exact rfl); (· exact rfl); (· exact rfl)) | (apply Loads.rrow1; (· assumption); (first | (rotate_left; (· exact rfl); rotate_right; (· assumption)) | ((· assumption); (· exact rfl))); (· exact rfl)) | (apply Loads.rrowF; (· assumption); (first | (rotate_left; (· exact rfl); rotate_right; (· assumption)) | ((· assumption); (· exact rfl))); (· exact rfl); (· exact rfl)) | (apply Loads.rowS; (· (repeat (first | exact List.Mem.head _ | apply List.Mem.tail))); (first | (rotate_left; (· exact rfl); rotate_right; (· assumption)) | ((· assumption); (· exact rfl))); (· exact rfl); (· exact rfl); (· (repeat (first | exact Seg.nil | (apply Seg.cons; (· exact rfl))))))))))); (· exact rfl)))
  · exact ⟨_, rfl, rfl, rfl⟩
/-- what the iterator holds: the open unit (or none), yield -/
def heldU (bu by_ lp : Nat) (u : Un) : SHeap := [.blk bu (.cells u.cs.toArray 118 (0, 0)), .blk by_ (.cells [.func (.yield lp) #[] #[]].toArray 135 (0, 0))]
theorem from_head {l : List UInt8} {z : Nat} {p : Pc} {post : List Pc} (h : from_ l z = p :: post) : p.at_ = z ∧ post = from_ l (z + p.w) := by
  by_cases hk : z < l.length
  · rw [from_cons hk] at h
    injection h with h1 h2
    exact ⟨by rw [← h1, readP_at], by rw [← h2, ← h1]⟩
  · rw [from_nil hk] at h; cases h
/-- where the iterator stands behind some pieces -/
def AtU (l : List UInt8) (bu by_ lp : Nat) (J : List Un → Mem → SHeap → Prop) (pre : List Pc) (m' : Mem) (Hl : SHeap) : Prop :=
  ∃ (u : Un) (o : Option Un) (told : List Un) (z : Nat) (H1 : SHeap), (o = none ∧ u.z = 0 ∨ o = some u ∧ 0 < u.z) ∧ u.z ≤ z ∧ (∀ post, pieces l = pre ++ post → post = from_ l z) ∧ (∀ post, uGo none (pre ++ post) = told ++ uGo o post) ∧ Hl = heldU bu by_ lp u ++ H1 ∧ J told m' H1
/-- where it was left -/
def LeftU (l : List UInt8) (Jx : List Un → Mem → SHeap → Prop) (cd : Code) (m' : Mem) (Hl : SHeap) : Prop :=
  cd = .ret ∧ ∃ (X H1 : SHeap) (told : List Un), Hl = X ++ H1 ∧ told <+: unitsL l ∧ Jx told m' H1
theorem sq_D2_1 {G : Prop} (h : G := by (repeat (first | (refine sp ?_; (repeat intro zzc)) | (refine iF 58 rfl ?_; refine w_callG Try.func58 ?_ (hs := of_any _ (by assumption) _ _ _)) | (refine iF 59 rfl ?_; refine w_callG Try.func59 ?_ (hs := bare_any _ _ _ _)))); exact WQ.q1 rfl) : G := h
theorem st_D2_1 {G G' : Prop} (next : G') (h : Bx G' → G := by intro zzn; (first | ((refine st ?_; (repeat intro zzc)); (try ((first | (refine iF 58 rfl ?_; refine w_callG Try.func58 ?_ (hs := of_any _ (by assumption) _ _ _)) | (refine iF 59 rfl ?_; refine w_callG Try.func59 ?_ (hs := bare_any _ _ _ _)) | ((refine iDraw ?_; (first | refine WC.drawAll rfl (by decide +kernel) ?_ | refine WC.draw 1 rfl (by decide +kernel) ?_ | refine WC.draw 2 rfl (by decide +kernel) ?_ | refine WC.draw 3 rfl (by decide +kernel) ?_ | refine WC.draw 4 rfl (by decide +kernel) ?_ | refine WC.draw 5 rfl (by decide +kernel) ?_ | refine WC.draw 6 rfl (by decide +kernel) ?_ | refine WC.draw 7 rfl (by decide +kernel) ?_ | refine WC.draw 8 rfl (by decide +kernel) ?_ | refine WC.draw 9 rfl (by decide +kernel) ?_ | refine WC.draw 10 rfl (by decide +kernel) ?_ | refine WC.draw 11 rfl (by decide +kernel) ?_ | refine WC.draw 12 rfl (by decide +kernel) ?_ | refine WC.draw 13 rfl (by decide +kernel) ?_ | refine WC.draw 14 rfl (by decide +kernel) ?_ | refine WC.draw 15 rfl (by decide +kernel) ?_ | refine WC.draw 16 rfl (by decide +kernel) ?_ | refine WC.draw 17 rfl (by decide +kernel) ?_ | refine WC.draw 18 rfl (by decide +kernel) ?_ | refine WC.draw 19 rfl (by decide +kernel) ?_ | refine WC.draw 20 rfl (by decide +kernel) ?_ | refine WC.draw 21 rfl (by decide +kernel) ?_ | refine WC.draw 22 rfl (by decide +kernel) ?_ | refine WC.draw 23 rfl (by decide +kernel) ?_ | refine WC.draw 24 rfl (by decide +kernel) ?_)); (repeat (refine WD.cons rfl (fun c h => by cases h) sq_D2_1 ?_)); refine WD.nil ?_)); (try (refine st ?_; (repeat intro zzc)))))) | ((first | (refine iF 58 rfl ?_; refine w_callG Try.func58 ?_ (hs := of_any _ (by assumption) _ _ _)) | (refine iF 59 rfl ?_; refine w_callG Try.func59 ?_ (hs := bare_any _ _ _ _)) | ((refine iDraw ?_; (first | refine WC.drawAll rfl (by decide +kernel) ?_ | refine WC.draw 1 rfl (by decide +kernel) ?_ | refine WC.draw 2 rfl (by decide +kernel) ?_ | refine WC.draw 3 rfl (by decide +kernel) ?_ | refine WC.draw 4 rfl (by decide +kernel) ?_ | refine WC.draw 5 rfl (by decide +kernel) ?_ | refine WC.draw 6 rfl (by decide +kernel) ?_ | refine WC.draw 7 rfl (by decide +kernel) ?_ | refine WC.draw 8 rfl (by decide +kernel) ?_ | refine WC.draw 9 rfl (by decide +kernel) ?_ | refine WC.draw 10 rfl (by decide +kernel) ?_ | refine WC.draw 11 rfl (by decide +kernel) ?_ | refine WC.draw 12 rfl (by decide +kernel) ?_ | refine WC.draw 13 rfl (by decide +kernel) ?_ | refine WC.draw 14 rfl (by decide +kernel) ?_ | refine WC.draw 15 rfl (by decide +kernel) ?_ | refine WC.draw 16 rfl (by decide +kernel) ?_ | refine WC.draw 17 rfl (by decide +kernel) ?_ | refine WC.draw 18 rfl (by decide +kernel) ?_ | refine WC.draw 19 rfl (by decide +kernel) ?_ | refine WC.draw 20 rfl (by decide +kernel) ?_ | refine WC.draw 21 rfl (by decide +kernel) ?_ | refine WC.draw 22 rfl (by decide +kernel) ?_ | refine WC.draw 23 rfl (by decide +kernel) ?_ | refine WC.draw 24 rfl (by decide +kernel) ?_)); (repeat (refine WD.cons rfl (fun c h => by cases h) sq_D2_1 ?_)); refine WD.nil ?_)); (try (refine st ?_; (repeat intro zzc))))); (repeat ((first | (refine iF 58 rfl ?_; refine w_callG Try.func58 ?_ (hs := of_any _ (by assumption) _ _ _)) | (refine iF 59 rfl ?_; refine w_callG Try.func59 ?_ (hs := bare_any _ _ _ _)) | ((refine iDraw ?_; (first | refine WC.drawAll rfl (by decide +kernel) ?_ | refine WC.draw 1 rfl (by decide +kernel) ?_ | refine WC.draw 2 rfl (by decide +kernel) ?_ | refine WC.draw 3 rfl (by decide +kernel) ?_ | refine WC.draw 4 rfl (by decide +kernel) ?_ | refine WC.draw 5 rfl (by decide +kernel) ?_ | refine WC.draw 6 rfl (by decide +kernel) ?_ | refine WC.draw 7 rfl (by decide +kernel) ?_ | refine WC.draw 8 rfl (by decide +kernel) ?_ | refine WC.draw 9 rfl (by decide +kernel) ?_ | refine WC.draw 10 rfl (by decide +kernel) ?_ | refine WC.draw 11 rfl (by decide +kernel) ?_ | refine WC.draw 12 rfl (by decide +kernel) ?_ | refine WC.draw 13 rfl (by decide +kernel) ?_ | refine WC.draw 14 rfl (by decide +kernel) ?_ | refine WC.draw 15 rfl (by decide +kernel) ?_ | refine WC.draw 16 rfl (by decide +kernel) ?_ | refine WC.draw 17 rfl (by decide +kernel) ?_ | refine WC.draw 18 rfl (by decide +kernel) ?_ | refine WC.draw 19 rfl (by decide +kernel) ?_ | refine WC.draw 20 rfl (by decide +kernel) ?_ | refine WC.draw 21 rfl (by decide +kernel) ?_ | refine WC.draw 22 rfl (by decide +kernel) ?_ | refine WC.draw 23 rfl (by decide +kernel) ?_ | refine WC.draw 24 rfl (by decide +kernel) ?_)); (repeat (refine WD.cons rfl (fun c h => by cases h) sq_D2_1 ?_)); refine WD.nil ?_)); (try (refine st ?_; (repeat intro zzc))))); (repeat revert zzc); exact zzn.out) : G := h ⟨next⟩
theorem units_seq (l : List UInt8) (hl : l.length ≤ 9223372036854775800) (b : Nat) : SeqM Try.prog 56 [.pointer (some ⟨b, 0, none⟩)] (fun u : Un => [u.v]) (unitsL l) (TextAt b l) := by
  intro w0 lp J Jx m H mJ mX hcap h0 hY
  have hcap' : m b = some (.cells [str l].toArray 9 (0, 0)) := hcap
  refine Does.of_body Try.func56 rfl Try.ntmps56 rfl ?_
  (refine st_D2_1 ?_; intros; rename_i by_ bu)
  refine w_callF Try.func57 ?_ (hs := pieces_any _ _ _ _)
  rintro v m H0 ⟨bs, rfl, rfl, rfl⟩
  refine WL.persist (b := bs) (by (repeat (first | exact Out.here | apply Out.there))) ?_
  intro m1 hle1 hbs
  (try (refine st_D2_1 ?_; intros))
  refine WC.rangeFunc (encs := fun p : Pc => [p.v]) (xs := pieces l) (Cap := TextAt bs l) (lb := [.pointer (some ⟨bs, 0, none⟩)]) (ps := [8]) (Hc := [])
    (J := fun pre m' Hl => m.le m' ∧ AtU l bu by_ lp J pre m' Hl) (Jx := fun cd _ m' Hl => LeftU l Jx cd m' Hl)
    rfl Try.func70 rfl rfl (pieces_seq l (by omega) bs) hbs (fun _ => rfl) rfl Tail.all ?_ ?_ ?_ ?_
  · exact ⟨hle1, ⟨0, 0, 0, 0, false⟩, none, [], 0, H, .inl ⟨rfl, rfl⟩, Nat.le_refl _, fun post h => by rw [List.nil_append] at h; unfold pieces at h; exact h.symm, fun _ => rfl, rfl, mJ _ _ _ _ h0 hle1⟩
  · rintro lp2 pre p post hx m2 Hl ⟨hle2, u, o, told, z, H1, ho, hz, hat, hcl, rfl, hJ⟩ hm2 Hfr hfr
    have hmw := mem_w (l := l) (p := p) (by rw [hx]; simp)
    obtain ⟨hpz, hpost⟩ := from_head (hat _ hx).symm
    have hpr : okr p.r := by
      have hsp := pieces_split (pre := pre) (p := p) (post := post) hx
      rw [hsp.2.1]; exact readP_ok hsp.1
    have hap : (p.at_ : Int) + (p.w : Int) = ((p.at_ + p.w : Nat) : Int) := by omega
    have hnext : ∀ post, pieces l = (pre ++ [p]) ++ post → post = from_ l (z + p.w) := fun post2 h2 => by
      rw [List.append_assoc] at h2
      exact (from_head (hat _ h2).symm).2
    simp only [heldU, List.cons_append, List.nil_append, List.append_assoc]
    (refine st_D2_1 ?_; intros; rename_i bp)
    refine WQ.assignedIn (.cons (.cons (.cons Tail.app))) (Mem.le.refl _) ?_
    intro Hfr2 hfr2
    simp only [List.cons_append]
    simp only [Un.cs]
    rcases ho with ⟨rfl, huz⟩ | ⟨rfl, huz⟩
    · have hno : ∀ post, uGo none ((pre ++ [p]) ++ post) = told ++ uGo (some (headU p)) post := fun post => by
        rw [List.append_assoc]; exact (hcl (p :: post)).trans (by rw [uGo_none])
      by_cases hk : kindP p = 2
      all_goals
        (try (refine st_D2_1 ?_; intros))
        rw [hap]
        exact WQ.roundOn (Hl := heldU bu by_ lp (headU p) ++ H1) (fun w h => h.drop) (Mem.le.refl _) ⟨hle2, headU p, some (headU p), told, z + p.w, H1, .inr ⟨rfl, by show 0 < p.at_ + p.w; omega⟩, by show p.at_ + p.w ≤ _; omega, hnext, hno, rfl, hJ⟩
    · by_cases hg : kindP p = 2 ∧ ¬ bareK u.k
      · obtain ⟨hk, hb⟩ := hg
        have hbb : (!decide (bareK u.k)) = true := by simpa using hb
        have hno : ∀ post, uGo none ((pre ++ [p]) ++ post) = told ++ uGo (some (u.ext p)) post := fun post => by
          rw [List.append_assoc]; exact (hcl (p :: post)).trans (by rw [uGo_mark ⟨hk, hb⟩])
        have huz2 : (u.z : Int) + (p.w : Int) = ((u.z + p.w : Nat) : Int) := by omega
        (try (refine st_D2_1 ?_; intros))
        rw [huz2]
        exact WQ.roundOn (Hl := heldU bu by_ lp (u.ext p) ++ H1) (fun w h => h.drop) (Mem.le.refl _) ⟨hle2, u.ext p, some (u.ext p), told, z + p.w, H1, .inr ⟨rfl, by show 0 < u.z + p.w; omega⟩, by show u.z + p.w ≤ _; omega, hnext, hno, rfl, hJ⟩
      · have hno : ∀ post, uGo none ((pre ++ [p]) ++ post) = (told ++ [u]) ++ uGo (some (headU p)) post := fun post => by
          rw [List.append_assoc, List.append_assoc]; exact (hcl (p :: post)).trans (by rw [uGo_free hg]; rfl)
        have hY1 := hY told u (uGo (some (headU p)) post) (by unfold unitsL; rw [hx, hcl, uGo_free hg])
        have hh : kindP p ≠ 2 ∨ kindP p = 2 ∧ (!decide (bareK u.k)) = false := by
          by_cases h : kindP p = 2
          · exact .inr ⟨h, by simpa [h] using hg⟩
          · exact .inl h
        rcases hh with hk | ⟨hk, hb⟩
        all_goals
          (try (refine st_D2_1 ?_; intros))
          refine WL.heap (fun w h => h.perm (perm_frame [_, _, _] H1 Hfr2)) ?_
          refine WL.yield (vs := [u.v]) rfl rfl rfl (hY1 m2 H1 _ hJ hle2) ?_ ?_
          · rintro m5 H9 ⟨H5, rfl, hJ5, hle5⟩
            refine WL.heap (fun w h => h.perm (perm_frame [_, _, _] H5 Hfr2).symm) ?_
            simp only [List.cons_append, List.nil_append]
            (try (refine st_D2_1 ?_; intros))
            rw [hap]
            exact WQ.roundOn (Hl := heldU bu by_ lp (headU p) ++ H5) (fun w h => h.drop) hle5 ⟨hle2.trans hle5, headU p, some (headU p), told ++ [u], z + p.w, H5, .inr ⟨rfl, by show 0 < p.at_ + p.w; omega⟩, by show p.at_ + p.w ≤ _; omega, hnext, hno, rfl, hJ5⟩
          · rintro m5 H9 ⟨H5, rfl, hJ5, hle5⟩
            refine WL.heap (fun w h => h.perm (perm_frame [_, _, _] H5 Hfr2).symm) ?_
            simp only [List.cons_append, List.nil_append]
            (try (refine st_D2_1 ?_; intros))
            exact WQ.roundRet (Hl := [_, _, _] ++ H5) (fun w h => by simpa using h) hle5 ⟨rfl, _, H5, told ++ [u], rfl, ⟨uGo (some (headU p)) post, by unfold unitsL; rw [hx, hcl, uGo_free hg]; simp⟩, hJ5⟩
  · rintro D m2 Hl ⟨hle2, u, o, told, z, H1, ho, hz, hat, hcl, rfl, hJ⟩ hm2
    have hcl0 := hcl []
    rw [List.append_nil] at hcl0
    simp only [heldU, Un.cs, List.cons_append, List.nil_append, List.append_assoc]
    rcases ho with ⟨rfl, huz⟩ | ⟨rfl, huz⟩
    · have hend : unitsL l = told := by unfold unitsL; rw [hcl0]; simp [uGo]
      (try (refine st_D2_1 ?_; intros))
      refine WQ.markNorm (H1 := [_, _] ++ H1) (List.perm_append_comm (l₁ := [_, _] ++ H1) (l₂ := [_])) ?_
      exact q_finNorm0 (H0 := H1) ⟨hle2, .inl (by rw [hend]; exact hJ)⟩ (hd := fun w h => h.drop.drop)
    · have hend : unitsL l = told ++ [u] := by unfold unitsL; rw [hcl0]; simp [uGo]
      (try (refine st_D2_1 ?_; intros))
      refine WL.heap (fun w h => h.perm (perm_frame [_, _] H1 [.blk D (.deferred (some []))])) ?_
      refine WL.yield (vs := [u.v]) rfl rfl rfl (hY told u [] (by rw [hend]) m2 H1 _ hJ hle2) ?_ ?_
      · rintro m5 H9 ⟨H5, rfl, hJ5, hle5⟩
        refine WL.heap (fun w h => h.perm (perm_frame [_, _] H5 [.blk D (.deferred (some []))]).symm) ?_
        simp only [List.cons_append, List.nil_append]
        (try (refine st_D2_1 ?_; intros))
        refine WQ.markNorm (H1 := [_, _] ++ H5) (List.perm_append_comm (l₁ := [_, _] ++ H5) (l₂ := [_])) ?_
        exact q_finNorm0 (H0 := H5) ⟨hle2.trans hle5, .inl (by rw [hend]; exact hJ5)⟩ (hd := fun w h => h.drop.drop)
      · rintro m5 H9 ⟨H5, rfl, hJ5, hle5⟩
        refine WL.heap (fun w h => h.perm (perm_frame [_, _] H5 [.blk D (.deferred (some []))]).symm) ?_
        simp only [List.cons_append, List.nil_append]
        (try (refine st_D2_1 ?_; intros))
        refine WQ.markNorm (H1 := [_, _] ++ H5) (List.perm_append_comm (l₁ := [_, _] ++ H5) (l₂ := [_])) ?_
        exact q_finNorm0 (H0 := H5) ⟨hle2.trans hle5, .inr ⟨told ++ [u], ⟨[], by rw [hend, List.append_nil]⟩, hJ5⟩⟩ (hd := fun w h => h.drop.drop)
  · rintro D cd pre2 m4 Hl _ ⟨rfl, X, H4, told', rfl, hpre, hJ4⟩ hm4
    (try (refine st_D2_1 ?_; intros))
    refine WQ.mark (H1 := X ++ H4) List.perm_append_comm ?_
    exact q_fin0 (H0 := H4) ⟨hle1.trans hm4, .inr ⟨told', hpre, hJ4⟩⟩ (hd := fun w h => drops_app h)
end Go.Proofs.Ytgckeelnhafgaaa

/-
  The walks of the scanner's methods: fits, begin. No condition.
-/
namespace Go.Eng
open Go Go.RowKit
def Sc.cs (s : Sc) : List Value := [.int .i64 (s.st : Int), .int .i64 (s.t.k : Int), .int .i64 (s.t.a : Int), .int .i64 (s.t.z : Int), .int .i64 (s.h.k : Int), .int .i32 (s.h.r : Int), .int .i64 (s.h.a : Int), .int .i64 (s.h.z : Int), .bool s.h.o]
/-- the scanner behind fits -/
def Sc.fit (s : Sc) (u : Un) : Sc := ⟨(fitsS s.st u).2, s.t, if (fitsS s.st u).1 = 2 then u else s.h⟩
end Go.Eng
namespace Go.Proofs.Ytgckeelnhafgaaa
open Go Go.Eng
set_option maxRecDepth 100000
set_option maxHeartbeats 4000000
set_option linter.all false
attribute [local irreducible] WL WC WQ QFun QLoop Does Q1 QRound QAssign Go.Addr.add
def ScAt (b : Nat) (s : Sc) : Eng.Item := .blk b (.cells s.cs.toArray 120 (0, 0))
def FitP (b e : Nat) (s : Sc) (m : Mem) (H : SHeap) (v : Value) (m' : Mem) (H' : SHeap) : Prop := v = .int .i64 (e : Int) ∧ m' = m ∧ H' = ScAt b s :: H
theorem sq_D3_1 {G : Prop} (h : G := by (repeat (first | (refine sp ?_; (repeat intro zzc)) | (refine iF 60 rfl ?_; refine w_callG Try.func60 ?_ (hs := joint_any u _ _ _)) | (refine iF 61 rfl ?_; refine w_callG Try.func61 ?_ (hs := dot_any u _ _ _)))); exact WQ.q1 rfl) : G := h
theorem cm_D3_1 {G G' : Prop} (next : G') (h : Bx G' → G := by intro zzn; (try (refine wcal 0 ?_ (hwl := by intro zm zF zle; exact sq_D3_1))); (try (refine wcal 1 ?_ (hwl := by intro zm zF zle; exact sq_D3_1))); (try (refine wcal 2 ?_ (hwl := by intro zm zF zle; exact sq_D3_1))); (try (refine wcal 3 ?_ (hwl := by intro zm zF zle; exact sq_D3_1))); (try (refine wcal 4 ?_ (hwl := by intro zm zF zle; exact sq_D3_1))); (try (refine wcal 5 ?_ (hwl := by intro zm zF zle; exact sq_D3_1))); (try (refine wcal 6 ?_ (hwl := by intro zm zF zle; exact sq_D3_1))); (try (refine wcal 7 ?_ (hwl := by intro zm zF zle; exact sq_D3_1))); (try (refine wcal 8 ?_ (hwl := by intro zm zF zle; exact sq_D3_1))); (try (refine wcal 9 ?_ (hwl := by intro zm zF zle; exact sq_D3_1))); (try (refine wcal 10 ?_ (hwl := by intro zm zF zle; exact sq_D3_1))); (try (refine wcal 11 ?_ (hwl := by intro zm zF zle; exact sq_D3_1))); (try (refine wcal 12 ?_ (hwl := by intro zm zF zle; exact sq_D3_1))); (try (refine wcal 13 ?_ (hwl := by intro zm zF zle; exact sq_D3_1))); (try (refine wcal 14 ?_ (hwl := by intro zm zF zle; exact sq_D3_1))); (try (refine wcal 15 ?_ (hwl := by intro zm zF zle; exact sq_D3_1))); (try (refine wcal 16 ?_ (hwl := by intro zm zF zle; exact sq_D3_1))); (try (refine wcal 17 ?_ (hwl := by intro zm zF zle; exact sq_D3_1))); (try (refine wcal 18 ?_ (hwl := by intro zm zF zle; exact sq_D3_1))); (try (refine wcal 19 ?_ (hwl := by intro zm zF zle; exact sq_D3_1))); (try (refine wcal 20 ?_ (hwl := by intro zm zF zle; exact sq_D3_1))); (try (refine wcal 21 ?_ (hwl := by intro zm zF zle; exact sq_D3_1))); (try (refine wcal 22 ?_ (hwl := by intro zm zF zle; exact sq_D3_1))); (try (refine wcal 23 ?_ (hwl := by intro zm zF zle; exact sq_D3_1))); (try (refine wcal 24 ?_ (hwl := by intro zm zF zle; exact sq_D3_1))); (try (refine wcal 25 ?_ (hwl := by intro zm zF zle; exact sq_D3_1))); (try (refine wcal 26 ?_ (hwl := by intro zm zF zle; exact sq_D3_1))); (try (refine wcal 27 ?_ (hwl := by intro zm zF zle; exact sq_D3_1))); (try (refine wcal 28 ?_ (hwl := by intro zm zF zle; exact sq_D3_1))); (try (refine wcal 29 ?_ (hwl := by intro zm zF zle; exact sq_D3_1))); (try (refine wcal 30 ?_ (hwl := by intro zm zF zle; exact sq_D3_1))); (try (refine wcal 31 ?_ (hwl := by intro zm zF zle; exact sq_D3_1))); (try (refine wcal 32 ?_ (hwl := by intro zm zF zle; exact sq_D3_1))); (try (refine wcal 33 ?_ (hwl := by intro zm zF zle; exact sq_D3_1))); (try (refine wcal 34 ?_ (hwl := by intro zm zF zle; exact sq_D3_1))); (try (refine wcal 35 ?_ (hwl := by intro zm zF zle; exact sq_D3_1))); (try (refine wcal 36 ?_ (hwl := by intro zm zF zle; exact sq_D3_1))); (try (refine wcal 37 ?_ (hwl := by intro zm zF zle; exact sq_D3_1))); (try (refine wcal 38 ?_ (hwl := by intro zm zF zle; exact sq_D3_1))); (try (refine wcal 39 ?_ (hwl := by intro zm zF zle; exact sq_D3_1))); (try (refine wcal 40 ?_ (hwl := by intro zm zF zle; exact sq_D3_1))); (try (refine wcal 41 ?_ (hwl := by intro zm zF zle; exact sq_D3_1))); exact zzn.out) : G := h ⟨next⟩
theorem st_D3_1 {G G' : Prop} (next : G') (h : Bx G' → G := by intro zzn; (first | ((refine st ?_; (repeat intro zzc)); (try ((first | (refine iF 60 rfl ?_; refine w_callG Try.func60 ?_ (hs := joint_any u _ _ _)) | (refine iF 61 rfl ?_; refine w_callG Try.func61 ?_ (hs := dot_any u _ _ _)) | ((refine iDraw ?_; (first | refine WC.drawAll rfl (by decide +kernel) ?_ | refine WC.draw 1 rfl (by decide +kernel) ?_ | refine WC.draw 2 rfl (by decide +kernel) ?_ | refine WC.draw 3 rfl (by decide +kernel) ?_ | refine WC.draw 4 rfl (by decide +kernel) ?_ | refine WC.draw 5 rfl (by decide +kernel) ?_ | refine WC.draw 6 rfl (by decide +kernel) ?_ | refine WC.draw 7 rfl (by decide +kernel) ?_ | refine WC.draw 8 rfl (by decide +kernel) ?_ | refine WC.draw 9 rfl (by decide +kernel) ?_ | refine WC.draw 10 rfl (by decide +kernel) ?_ | refine WC.draw 11 rfl (by decide +kernel) ?_ | refine WC.draw 12 rfl (by decide +kernel) ?_ | refine WC.draw 13 rfl (by decide +kernel) ?_ | refine WC.draw 14 rfl (by decide +kernel) ?_ | refine WC.draw 15 rfl (by decide +kernel) ?_ | refine WC.draw 16 rfl (by decide +kernel) ?_ | refine WC.draw 17 rfl (by decide +kernel) ?_ | refine WC.draw 18 rfl (by decide +kernel) ?_ | refine WC.draw 19 rfl (by decide +kernel) ?_ | refine WC.draw 20 rfl (by decide +kernel) ?_ | refine WC.draw 21 rfl (by decide +kernel) ?_ | refine WC.draw 22 rfl (by decide +kernel) ?_ | refine WC.draw 23 rfl (by decide +kernel) ?_ | refine WC.draw 24 rfl (by decide +kernel) ?_)); (repeat (refine WD.cons rfl (fun c h => by cases h) sq_D3_1 ?_)); refine WD.nil ?_)); (try (refine st ?_; (repeat intro zzc)))))) | ((first | (refine iF 60 rfl ?_; refine w_callG Try.func60 ?_ (hs := joint_any u _ _ _)) | (refine iF 61 rfl ?_; refine w_callG Try.func61 ?_ (hs := dot_any u _ _ _)) | ((refine iDraw ?_; (first | refine WC.drawAll rfl (by decide +kernel) ?_ | refine WC.draw 1 rfl (by decide +kernel) ?_ | refine WC.draw 2 rfl (by decide +kernel) ?_ | refine WC.draw 3 rfl (by decide +kernel) ?_ | refine WC.draw 4 rfl (by decide +kernel) ?_ | refine WC.draw 5 rfl (by decide +kernel) ?_ | refine WC.draw 6 rfl (by decide +kernel) ?_ | refine WC.draw 7 rfl (by decide +kernel) ?_ | refine WC.draw 8 rfl (by decide +kernel) ?_ | refine WC.draw 9 rfl (by decide +kernel) ?_ | refine WC.draw 10 rfl (by decide +kernel) ?_ | refine WC.draw 11 rfl (by decide +kernel) ?_ | refine WC.draw 12 rfl (by decide +kernel) ?_ | refine WC.draw 13 rfl (by decide +kernel) ?_ | refine WC.draw 14 rfl (by decide +kernel) ?_ | refine WC.draw 15 rfl (by decide +kernel) ?_ | refine WC.draw 16 rfl (by decide +kernel) ?_ | refine WC.draw 17 rfl (by decide +kernel) ?_ | refine WC.draw 18 rfl (by decide +kernel) ?_ | refine WC.draw 19 rfl (by decide +kernel) ?_ | refine WC.draw 20 rfl (by decide +kernel) ?_ | refine WC.draw 21 rfl (by decide +kernel) ?_ | refine WC.draw 22 rfl (by decide +kernel) ?_ | refine WC.draw 23 rfl (by decide +kernel) ?_ | refine WC.draw 24 rfl (by decide +kernel) ?_)); (repeat (refine WD.cons rfl (fun c h => by cases h) sq_D3_1 ?_)); refine WD.nil ?_)); (try (refine st ?_; (repeat intro zzc))))); (repeat ((first | (refine iF 60 rfl ?_; refine w_callG Try.func60 ?_ (hs := joint_any u _ _ _)) | (refine iF 61 rfl ?_; refine w_callG Try.func61 ?_ (hs := dot_any u _ _ _)) | ((refine iDraw ?_; (first | refine WC.drawAll rfl (by decide +kernel) ?_ | refine WC.draw 1 rfl (by decide +kernel) ?_ | refine WC.draw 2 rfl (by decide +kernel) ?_ | refine WC.draw 3 rfl (by decide +kernel) ?_ | refine WC.draw 4 rfl (by decide +kernel) ?_ | refine WC.draw 5 rfl (by decide +kernel) ?_ | refine WC.draw 6 rfl (by decide +kernel) ?_ | refine WC.draw 7 rfl (by decide +kernel) ?_ | refine WC.draw 8 rfl (by decide +kernel) ?_ | refine WC.draw 9 rfl (by decide +kernel) ?_ | refine WC.draw 10 rfl (by decide +kernel) ?_ | refine WC.draw 11 rfl (by decide +kernel) ?_ | refine WC.draw 12 rfl (by decide +kernel) ?_ | refine WC.draw 13 rfl (by decide +kernel) ?_ | refine WC.draw 14 rfl (by decide +kernel) ?_ | refine WC.draw 15 rfl (by decide +kernel) ?_ | refine WC.draw 16 rfl (by decide +kernel) ?_ | refine WC.draw 17 rfl (by decide +kernel) ?_ | refine WC.draw 18 rfl (by decide +kernel) ?_ | refine WC.draw 19 rfl (by decide +kernel) ?_ | refine WC.draw 20 rfl (by decide +kernel) ?_ | refine WC.draw 21 rfl (by decide +kernel) ?_ | refine WC.draw 22 rfl (by decide +kernel) ?_ | refine WC.draw 23 rfl (by decide +kernel) ?_ | refine WC.draw 24 rfl (by decide +kernel) ?_)); (repeat (refine WD.cons rfl (fun c h => by cases h) sq_D3_1 ?_)); refine WD.nil ?_)); (try (refine st ?_; (repeat intro zzc))))); (repeat revert zzc); exact zzn.out) : G := h ⟨next⟩
theorem fits_any (s : Sc) (u : Un) {b : Nat} (w0 : World) (m : Mem) (H : SHeap) :
    Does Try.prog 43 #[.pointer (some ⟨b, 0, none⟩), u.v] w0 m (ScAt b s :: H) (FitP b (fitsS s.st u).1 (s.fit u) m H) := by
  refine Does.of_body (args := [.pointer (some ⟨b, 0, none⟩), .agg #[.int .i64 (u.k : Int), .int .i32 (u.r : Int), .int .i64 (u.a : Int), .int .i64 (u.z : Int), .bool u.o]]) Try.func43 rfl Try.ntmps43 rfl ?_
  simp only [ScAt, Sc.cs]
  have done : ∀ (e : Nat) (s1 : Sc), fitsS s.st u = (e, s1.st) → s1.t = s.t → (s1.h = if e = 2 then u else s.h) → FitP b (fitsS s.st u).1 (s.fit u) m H (.int .i64 (e : Int)) m (ScAt b s1 :: H) := by
    intro e s1 h1 h2 h3
    have : s.fit u = s1 := by
      obtain ⟨x, y, z⟩ := s1
      simp only at h1 h2 h3
      subst h2
      subst h3
      simp [Sc.fit, h1]
    rw [this, h1]
    exact ⟨rfl, rfl, rfl⟩
  by_cases a1 : s.st = 1
  · by_cases k1 : u.k = 1
    · (try (refine st_D3_1 ?_; intros))
      exact q_fin0 (H0 := ScAt b ⟨1, s.t, s.h⟩ :: H) (done 1 ⟨1, s.t, s.h⟩ (by simp [fitsS, a1, k1]) rfl rfl) (hd := zpk)
    by_cases hj : jointU u
    · have hjb : decide (jointU u) = true := decide_eq_true hj
      (refine st_D3_1 ?_; intros; rename_i bx)
      refine WC.drawE 9 ([.blk bx (.cells [.int .i64 (u.k : Int), .int .i32 (u.r : Int), .int .i64 (u.a : Int), .int .i64 (u.z : Int), .bool u.o].toArray 118 (0, 0))]) (.blk b (.cells [.int .i64 (s.st : Int), .int .i64 (s.t.k : Int), .int .i64 (s.t.a : Int), .int .i64 (s.t.z : Int), .int .i64 (s.h.k : Int), .int .i32 (s.h.r : Int), .int .i64 (s.h.a : Int), .int .i64 (s.h.z : Int), .bool s.h.o].toArray 120 (0, 0)) :: H) rfl (by decide +kernel) zpk ?_
      (refine cm_D3_1 ?_)
      refine WE.act0 5 (by decide +kernel) rfl rfl (fun c h => by cases h) ?_
      (try (refine st_D3_1 ?_; intros))
      refine WQ.stored (B := []) (U := .blk b (.cells [.int .i64 2, .int .i64 (s.t.k : Int), .int .i64 (s.t.a : Int), .int .i64 (s.t.z : Int), .int .i64 (s.h.k : Int), .int .i32 (s.h.r : Int), .int .i64 (s.h.a : Int), .int .i64 (s.h.z : Int), .bool s.h.o].toArray 120 (0, 0)) :: H) (Mem.le.refl _) zpk ?_
      (refine cm_D3_1 ?_)
      refine WE.act0 8 (by decide +kernel) rfl rfl (fun c h => by cases h) ?_
      (try (refine st_D3_1 ?_; intros))
      refine WQ.stored (B := []) (U := .blk b (.cells [.int .i64 2, .int .i64 (s.t.k : Int), .int .i64 (s.t.a : Int), .int .i64 (s.t.z : Int), .int .i64 (u.k : Int), .int .i32 (u.r : Int), .int .i64 (u.a : Int), .int .i64 (u.z : Int), .bool u.o].toArray 120 (0, 0)) :: H) (Mem.le.refl _) zpk ?_
      refine WE.done (by decide +kernel) ?_
      (try (refine st_D3_1 ?_; intros))
      exact q_fin0 (H0 := ScAt b ⟨2, s.t, u⟩ :: H) (done 2 ⟨2, s.t, u⟩ (by simp [fitsS, a1, k1, hj]) rfl rfl) (hd := zpk)
    · have hjb : decide (jointU u) = false := decide_eq_false hj
      (try (refine st_D3_1 ?_; intros))
      exact q_fin0 (H0 := ScAt b s :: H) (done 0 s (by simp [fitsS, a1, k1, hj]) rfl rfl) (hd := zpk)
  have n1 := a1
  clear a1
  by_cases a1 : s.st = 2
  · by_cases k1 : u.k = 1
    · (try (refine st_D3_1 ?_; intros))
      exact q_fin0 (H0 := ScAt b ⟨1, s.t, s.h⟩ :: H) (done 1 ⟨1, s.t, s.h⟩ (by simp [fitsS, a1, k1]) rfl rfl) (hd := zpk)
    · (try (refine st_D3_1 ?_; intros))
      exact q_fin0 (H0 := ScAt b s :: H) (done 0 s (by simp [fitsS, a1, k1]) rfl rfl) (hd := zpk)
  have n2 := a1
  clear a1
  by_cases a1 : s.st = 3
  · by_cases k1 : u.k = 3
    · (try (refine st_D3_1 ?_; intros))
      exact q_fin0 (H0 := ScAt b ⟨3, s.t, s.h⟩ :: H) (done 1 ⟨3, s.t, s.h⟩ (by simp [fitsS, a1, k1]) rfl rfl) (hd := zpk)
    by_cases hj : dotU u
    · have hjb : decide (dotU u) = true := decide_eq_true hj
      (refine st_D3_1 ?_; intros; rename_i bx)
      refine WC.drawE 9 ([.blk bx (.cells [.int .i64 (u.k : Int), .int .i32 (u.r : Int), .int .i64 (u.a : Int), .int .i64 (u.z : Int), .bool u.o].toArray 118 (0, 0))]) (.blk b (.cells [.int .i64 (s.st : Int), .int .i64 (s.t.k : Int), .int .i64 (s.t.a : Int), .int .i64 (s.t.z : Int), .int .i64 (s.h.k : Int), .int .i32 (s.h.r : Int), .int .i64 (s.h.a : Int), .int .i64 (s.h.z : Int), .bool s.h.o].toArray 120 (0, 0)) :: H) rfl (by decide +kernel) zpk ?_
      (refine cm_D3_1 ?_)
      refine WE.act0 5 (by decide +kernel) rfl rfl (fun c h => by cases h) ?_
      (try (refine st_D3_1 ?_; intros))
      refine WQ.stored (B := []) (U := .blk b (.cells [.int .i64 4, .int .i64 (s.t.k : Int), .int .i64 (s.t.a : Int), .int .i64 (s.t.z : Int), .int .i64 (s.h.k : Int), .int .i32 (s.h.r : Int), .int .i64 (s.h.a : Int), .int .i64 (s.h.z : Int), .bool s.h.o].toArray 120 (0, 0)) :: H) (Mem.le.refl _) zpk ?_
      (refine cm_D3_1 ?_)
      refine WE.act0 8 (by decide +kernel) rfl rfl (fun c h => by cases h) ?_
      (try (refine st_D3_1 ?_; intros))
      refine WQ.stored (B := []) (U := .blk b (.cells [.int .i64 4, .int .i64 (s.t.k : Int), .int .i64 (s.t.a : Int), .int .i64 (s.t.z : Int), .int .i64 (u.k : Int), .int .i32 (u.r : Int), .int .i64 (u.a : Int), .int .i64 (u.z : Int), .bool u.o].toArray 120 (0, 0)) :: H) (Mem.le.refl _) zpk ?_
      refine WE.done (by decide +kernel) ?_
      (try (refine st_D3_1 ?_; intros))
      exact q_fin0 (H0 := ScAt b ⟨4, s.t, u⟩ :: H) (done 2 ⟨4, s.t, u⟩ (by simp [fitsS, a1, k1, hj]) rfl rfl) (hd := zpk)
    · have hjb : decide (dotU u) = false := decide_eq_false hj
      (try (refine st_D3_1 ?_; intros))
      exact q_fin0 (H0 := ScAt b s :: H) (done 0 s (by simp [fitsS, a1, k1, hj]) rfl rfl) (hd := zpk)
  have n3 := a1
  clear a1
  by_cases a1 : s.st = 4
  · by_cases k1 : u.k = 3
    · (try (refine st_D3_1 ?_; intros))
      exact q_fin0 (H0 := ScAt b ⟨3, s.t, s.h⟩ :: H) (done 1 ⟨3, s.t, s.h⟩ (by simp [fitsS, a1, k1]) rfl rfl) (hd := zpk)
    · (try (refine st_D3_1 ?_; intros))
      exact q_fin0 (H0 := ScAt b s :: H) (done 0 s (by simp [fitsS, a1, k1]) rfl rfl) (hd := zpk)
  have n4 := a1
  clear a1
  by_cases a1 : s.st = 5
  · by_cases k1 : u.k = 5
    · (try (refine st_D3_1 ?_; intros))
      exact q_fin0 (H0 := ScAt b s :: H) (done 1 s (by simp [fitsS, a1, k1]) rfl rfl) (hd := zpk)
    · (try (refine st_D3_1 ?_; intros))
      exact q_fin0 (H0 := ScAt b s :: H) (done 0 s (by simp [fitsS, a1, k1]) rfl rfl) (hd := zpk)
  have n5 := a1
  clear a1
  by_cases a1 : s.st = 6
  · by_cases k1 : u.k = 11
    · (try (refine st_D3_1 ?_; intros))
      exact q_fin0 (H0 := ScAt b s :: H) (done 1 s (by simp [fitsS, a1, k1]) rfl rfl) (hd := zpk)
    · (try (refine st_D3_1 ?_; intros))
      exact q_fin0 (H0 := ScAt b s :: H) (done 0 s (by simp [fitsS, a1, k1]) rfl rfl) (hd := zpk)
  have n6 := a1
  clear a1
  by_cases a1 : s.st = 8
  · by_cases k1 : u.k = 4
    · by_cases k2 : u.r = 10
      · (try (refine st_D3_1 ?_; intros))
        exact q_fin0 (H0 := ScAt b ⟨7, s.t, s.h⟩ :: H) (done 1 ⟨7, s.t, s.h⟩ (by simp [fitsS, a1, k1, k2]) rfl rfl) (hd := zpk)
      · (try (refine st_D3_1 ?_; intros))
        exact q_fin0 (H0 := ScAt b s :: H) (done 0 s (by simp [fitsS, a1, k1, k2]) rfl rfl) (hd := zpk)
    · (try (refine st_D3_1 ?_; intros))
      exact q_fin0 (H0 := ScAt b s :: H) (done 0 s (by simp [fitsS, a1, k1]) rfl rfl) (hd := zpk)
  · (try (refine st_D3_1 ?_; intros))
    exact q_fin0 (H0 := ScAt b s :: H) (done 0 s (by simp [fitsS, n1, n2, n3, n4, n5, n6, a1]) rfl rfl) (hd := zpk)
end Go.Proofs.Ytgckeelnhafgaaa

/-
  The walks of the scanner's methods: begin, end. No condition.
-/
namespace Go.Proofs.Ytgckeelnhafgaaa
open Go Go.Eng
set_option maxRecDepth 100000
set_option maxHeartbeats 4000000
set_option linter.all false
attribute [local irreducible] WL WC WQ QFun QLoop Does Q1 QRound QAssign Go.Addr.add
theorem begin_any (s : Sc) (u : Un) {b : Nat} (w0 : World) (m : Mem) (H : SHeap) :
    Does Try.prog 45 #[.pointer (some ⟨b, 0, none⟩), u.v] w0 m (ScAt b s :: H) (fun _ m' H' => m' = m ∧ H' = ScAt b (s.begin_ u) :: H) := by
  refine Does.of_body (args := [.pointer (some ⟨b, 0, none⟩), .agg #[.int .i64 (u.k : Int), .int .i32 (u.r : Int), .int .i64 (u.a : Int), .int .i64 (u.z : Int), .bool u.o]]) Try.func45 rfl Try.ntmps45 rfl ?_
  simp only [ScAt, Sc.cs]
  have done : ∀ (k st : Nat), beginK u = (k, st) → s.begin_ u = ⟨st, ⟨k, u.a, u.z⟩, s.h⟩ := fun k st h => by simp [Sc.begin_, h]
  by_cases k1 : u.k = 1
  · (try (refine st ?_; intros))
    exact q_finNorm0 (H0 := ScAt b ⟨1, ⟨1, u.a, u.z⟩, s.h⟩ :: H) ⟨rfl, by rw [done 1 1 (by simp [beginK, k1])]; rfl⟩ (hd := zpk)
  by_cases k3 : u.k = 3
  · (try (refine st ?_; intros))
    exact q_finNorm0 (H0 := ScAt b ⟨3, ⟨2, u.a, u.z⟩, s.h⟩ :: H) ⟨rfl, by rw [done 2 3 (by simp [beginK, k1, k3])]; rfl⟩ (hd := zpk)
  by_cases k5 : u.k = 5
  · (try (refine st ?_; intros))
    exact q_finNorm0 (H0 := ScAt b ⟨5, ⟨3, u.a, u.z⟩, s.h⟩ :: H) ⟨rfl, by rw [done 3 5 (by simp [beginK, k1, k3, k5])]; rfl⟩ (hd := zpk)
  by_cases k11 : u.k = 11
  · (try (refine st ?_; intros))
    exact q_finNorm0 (H0 := ScAt b ⟨6, ⟨7, u.a, u.z⟩, s.h⟩ :: H) ⟨rfl, by rw [done 7 6 (by simp [beginK, k1, k3, k5, k11])]; rfl⟩ (hd := zpk)
  by_cases k4 : u.k = 4
  · by_cases r : u.r = 13
    · (try (refine st ?_; intros))
      exact q_finNorm0 (H0 := ScAt b ⟨8, ⟨4, u.a, u.z⟩, s.h⟩ :: H) ⟨rfl, by rw [done 4 8 (by simp [beginK, k1, k3, k5, k11, k4, r])]; rfl⟩ (hd := zpk)
    · (try (refine st ?_; intros))
      exact q_finNorm0 (H0 := ScAt b ⟨7, ⟨4, u.a, u.z⟩, s.h⟩ :: H) ⟨rfl, by rw [done 4 7 (by simp [beginK, k1, k3, k5, k11, k4, r])]; rfl⟩ (hd := zpk)
  by_cases k6 : u.k = 6
  · (try (refine st ?_; intros))
    exact q_finNorm0 (H0 := ScAt b ⟨9, ⟨5, u.a, u.z⟩, s.h⟩ :: H) ⟨rfl, by rw [done 5 9 (by simp [beginK, k1, k3, k5, k11, k4, k6])]; rfl⟩ (hd := zpk)
  by_cases k7 : u.k = 7
  · (try (refine st ?_; intros))
    exact q_finNorm0 (H0 := ScAt b ⟨9, ⟨5, u.a, u.z⟩, s.h⟩ :: H) ⟨rfl, by rw [done 5 9 (by simp [beginK, k1, k3, k5, k11, k4, k6, k7])]; rfl⟩ (hd := zpk)
  by_cases k8 : u.k = 8
  · (try (refine st ?_; intros))
    exact q_finNorm0 (H0 := ScAt b ⟨9, ⟨5, u.a, u.z⟩, s.h⟩ :: H) ⟨rfl, by rw [done 5 9 (by simp [beginK, k1, k3, k5, k11, k4, k6, k7, k8])]; rfl⟩ (hd := zpk)
  · (try (refine st ?_; intros))
    exact q_finNorm0 (H0 := ScAt b ⟨9, ⟨6, u.a, u.z⟩, s.h⟩ :: H) ⟨rfl, by rw [done 6 9 (by simp [beginK, k1, k3, k5, k11, k4, k6, k7, k8])]; rfl⟩ (hd := zpk)
/-- what a yield of tokens does -/
def YTk (w0 : World) (lp : Nat) (xs : List Tk) (J Jx : List Tk → Mem → SHeap → Prop) (m0 : Mem) : Prop :=
  ∀ pre x post, xs = pre ++ x :: post → ∀ m1 H1 Hit, J pre m1 H1 → m0.le m1 →
    YieldOK Try.prog w0 lp [x.v].toArray m1 (Hit ++ H1) (fun m' H' => ∃ H2, H' = Hit ++ H2 ∧ J (pre ++ [x]) m' H2 ∧ m1.le m') (fun m' H' => ∃ H2, H' = Hit ++ H2 ∧ Jx (pre ++ [x]) m' H2 ∧ m1.le m')
theorem end_any (s : Sc) {b lp : Nat} {xs : List Tk} {J Jx : List Tk → Mem → SHeap → Prop} {w0 : World} {m0 m : Mem} {pre post : List Tk} {H1 : SHeap} (Hit : SHeap) (hY : YTk w0 lp xs J Jx m0) (hx : xs = pre ++ (endS s ++ post)) (hJ : J pre m H1) (hle : m0.le m) :
    Does Try.prog 44 #[.pointer (some ⟨b, 0, none⟩), .func (.yield lp) #[] #[]] w0 m (ScAt b s :: (Hit ++ H1))
      (fun v m' H' => m.le m' ∧ ∃ H2, H' = ScAt b s :: (Hit ++ H2) ∧ ((v = .bool true ∧ J (pre ++ endS s) m' H2) ∨ (v = .bool false ∧ ∃ told, told <+: xs ∧ Jx told m' H2))) := by
  refine Does.of_body Try.func44 rfl Try.ntmps44 rfl ?_
  simp only [ScAt, Sc.cs]
  by_cases e0 : s.st = 0
  · (try (refine st ?_; intros))
    exact q_fin0 (H0 := ScAt b s :: (Hit ++ H1)) ⟨Mem.le.refl _, H1, rfl, .inl ⟨rfl, by rw [show endS s = [] by simp [endS, e0], List.append_nil]; exact hJ⟩⟩ (hd := zpk)
  have one : ∀ (x : Tk) (post2 : List Tk), xs = pre ++ x :: post2 → _ := fun x post2 h => hY pre x post2 h m H1 (ScAt b s :: Hit) hJ hle
  by_cases e2 : s.st = 2 ∨ s.st = 4
  · have hE : endS s = [s.t, ⟨5, s.h.a, s.h.z⟩] := by simp [endS, e0, e2]
    rw [hE] at hx
    have hx2 : xs = (pre ++ [s.t]) ++ ⟨5, s.h.a, s.h.z⟩ :: post := by rw [hx]; simp
    rcases e2 with e2 | e2
    all_goals
      (try (refine st ?_; intros))
      refine WL.yield (vs := [s.t.v]) rfl rfl rfl (one s.t (⟨5, s.h.a, s.h.z⟩ :: post) hx) ?_ ?_
      · rintro m5 H9 ⟨H5, rfl, hJ5, hle5⟩
        simp only [ScAt, Sc.cs, List.cons_append]
        (try (refine st ?_; intros))
        refine WL.yield (vs := [(⟨5, s.h.a, s.h.z⟩ : Tk).v]) rfl rfl rfl (hY _ _ post hx2 m5 H5 (ScAt b s :: Hit) hJ5 (hle.trans hle5)) ?_ ?_
        · rintro m6 H9 ⟨H6, rfl, hJ6, hle6⟩
          simp only [ScAt, Sc.cs, List.cons_append]
          (try (refine st ?_; intros))
          exact q_fin0 (H0 := ScAt b s :: (Hit ++ H6)) ⟨hle5.trans hle6, H6, rfl, .inl ⟨rfl, by rw [hE]; simpa using hJ6⟩⟩ (hd := zpk)
        · rintro m6 H9 ⟨H6, rfl, hJ6, hle6⟩
          simp only [ScAt, Sc.cs, List.cons_append]
          (try (refine st ?_; intros))
          exact q_fin0 (H0 := ScAt b s :: (Hit ++ H6)) ⟨hle5.trans hle6, H6, rfl, .inr ⟨rfl, _, ⟨post, by rw [hx2]; simp⟩, hJ6⟩⟩ (hd := zpk)
      · rintro m5 H9 ⟨H5, rfl, hJ5, hle5⟩
        simp only [ScAt, Sc.cs, List.cons_append]
        (try (refine st ?_; intros))
        exact q_fin0 (H0 := ScAt b s :: (Hit ++ H5)) ⟨hle5, H5, rfl, .inr ⟨rfl, _, ⟨⟨5, s.h.a, s.h.z⟩ :: post, by rw [hx]; simp⟩, hJ5⟩⟩ (hd := zpk)
  · have hE : endS s = [s.t] := by simp [endS, e0, e2]
    rw [hE] at hx
    (try (refine st ?_; intros))
    refine WL.yield (vs := [s.t.v]) rfl rfl rfl (one s.t _ hx) ?_ ?_
    · rintro m5 H9 ⟨H5, rfl, hJ5, hle5⟩
      simp only [ScAt, Sc.cs, List.cons_append]
      (try (refine st ?_; intros))
      exact q_fin0 (H0 := ScAt b s :: (Hit ++ H5)) ⟨hle5, H5, rfl, .inl ⟨rfl, by rw [hE]; exact hJ5⟩⟩ (hd := zpk)
    · rintro m5 H9 ⟨H5, rfl, hJ5, hle5⟩
      simp only [ScAt, Sc.cs, List.cons_append]
      (try (refine st ?_; intros))
      exact q_fin0 (H0 := ScAt b s :: (Hit ++ H5)) ⟨hle5, H5, rfl, .inr ⟨rfl, _, ⟨post, by rw [hx]; simp⟩, hJ5⟩⟩ (hd := zpk)
end Go.Proofs.Ytgckeelnhafgaaa

/-
  The walk of the iterator of tokens. No condition.
-/
namespace Go.Eng
open Go Go.RowKit
theorem fits_zero {st : Nat} {u : Un} (h : (fitsS st u).1 = 0) : (fitsS st u).2 = st := by
  revert h
  unfold fitsS
  repeat' split
  all_goals simp
theorem fit_zero {s : Sc} {u : Un} (h : (fitsS s.st u).1 = 0) : s.fit u = s := by
  unfold Sc.fit
  rw [fits_zero h, h, if_neg (by omega)]
theorem step_one {s : Sc} {u : Un} (h : (fitsS s.st u).1 = 1) : s.step u = ⟨(s.fit u).st, ⟨(s.fit u).t.k, (s.fit u).t.a, u.z⟩, (s.fit u).h⟩ := by
  unfold Sc.step Sc.fit
  rw [if_pos h, h, if_neg (show ¬ 1 = 2 by omega)]
theorem step_two {s : Sc} {u : Un} (h : (fitsS s.st u).1 = 2) : s.step u = s.fit u := by
  unfold Sc.step Sc.fit
  rw [if_neg (by omega), if_pos h, if_pos h]
theorem step_zero {s : Sc} {u : Un} (h : (fitsS s.st u).1 = 0) : s.step u = s.begin_ u := by
  unfold Sc.step
  rw [if_neg (by omega), if_neg (by omega)]
end Go.Eng
namespace Go.Proofs.Ytgckeelnhafgaaa
open Go Go.Eng
set_option maxRecDepth 100000
set_option maxHeartbeats 4000000
set_option linter.all false
attribute [local irreducible] WL WC WQ QFun QLoop Does Q1 QRound QAssign Go.Addr.add
attribute [local irreducible] Wide kindN kindP colP readP pieces dl from_ uGo fitsS
theorem scan_any (l : List UInt8) (w0 : World) (m : Mem) (H : SHeap) : Does Try.prog 25 #[str l] w0 m H (IterOf 41 l m H) := by
  refine Does.of_body (args := [str l]) Try.func25 rfl Try.ntmps25 rfl ?_
  (try (refine st ?_; intros))
  apply WQ.fin
  · (first | (apply res_tmp; (· exact rfl); (· exact rfl)) | (apply res_cell; (· exact rfl); (· exact rfl); (· (first | (apply Loads.one; (· exact rfl); (· first | (apply Cell.blk; (· (repeat (first | exact List.Mem.head _ | apply List.Mem.tail))); (· exact rfl)) | (apply Cell.mem; (· assumption); (· exact rfl)))) | (apply Loads.whole; (· exact rfl); (· exact rfl); (· (repeat (first | exact List.Mem.head _ | apply List.Mem.tail))); (· exact rfl)) | (apply Loads.blk; (· exact rfl); (· exact rfl); (· (repeat (first | exact List.Mem.head _ | apply List.Mem.tail))); (· (repeat (first | exact Seg.nil | (apply Seg.cons; (· exact rfl)))))) | (apply Loads.row; (· (repeat (first | exact List.Mem.head _ | apply List.Mem.tail))); (first | (rotate_left; (· exact rfl); rotate_right; (· assumption)) | ((· assumption); (· exact rfl))); (· exact rfl); (· exact rfl); (· exact rfl)) | (apply Loads.row1; (· (repeat (first | exact List.Mem.head _ | apply List.Mem.tail))); (first | (rotate_left; (· exact rfl); rotate_right; (· assumption)) | ((· assumption); (· exact rfl))); (· exact rfl)) | (apply Loads.rowF; (· (repeat (first | exact List.Mem.head _ | apply List.Mem.tail))); (first | (rotate_left; (· exact rfl); rotate_right; (· assumption)) | ((· assumption); (· exact rfl))); (· exact rfl); (· exact rfl)) | (apply Loads.prow; (· assumption); (first | (rotate_left; (· exact rfl); rotate_right; (· assumption)) | ((· assumption); (· exact rfl))); (· exact rfl); (· exact rfl); (· exact rfl)) | (apply Loads.prow1; (· assumption); (first | (rotate_left; (· exact rfl); rotate_right; (· assumption)) | ((· assumption); (· exact rfl))); (· exact rfl)) | (apply Loads.prowF; (· assumption); (first | (rotate_left; (· exact rfl); rotate_right; (· assumption)) | ((· assumption); (· exact rfl))); (· exact rfl); (· exact rfl)) | (apply Loads.rrow; (· assumption); (first | (rotate_left; (· exact rfl); rotate_right; (· assumption)) | ((· assumption); (· exact rfl))); (· exact rfl); (· exact rfl); (· exact rfl)) | (apply Loads.rrow1; (· assumption); (first | (rotate_left; (· exact rfl); rotate_right; (· assumption)) | ((· assumption); (· exact rfl))); (· exact rfl)) | (apply Loads.rrowF; (· assumption); (first | (rotate_left; (· exact rfl); rotate_right; (· assumption)) | ((· assumption); (· exact rfl))); (· exact rfl); (· exact rfl)) | (apply Loads.rowS; (· (repeat (first | exact List.Mem.head _ | apply List.Mem.tail))); (first | (rotate_left; (· exact rfl); rotate_right; (· assumption)) | ((· assumption); (· exact rfl))); (· exact rfl); (· exact rfl); (· (repeat (first | exact Seg.nil | (apply Seg.cons; (· exact rfl))))))))) | (apply res_none; exact rfl) | (apply res_many; (· exact rfl); (· repeat (first | exact ResAll.nil | (apply ResAll.tmp; (· exact rfl)) | (apply ResAll.cell; (· exact rfl); (· (first | (apply Loads.one; (· exact rfl); (· first | (apply Cell.blk; (· (repeat (first | exact List.Mem.head _ | apply List.Mem.tail))); (· exact rfl)) | (apply Cell.mem; (· assumption); (· exact rfl)))) | (apply Loads.whole; (· exact rfl); (· exact rfl); (· (repeat (first | exact List.Mem.head _ | apply List.Mem.tail))); (· exact rfl)) | (apply Loads.blk; (· exact rfl); (· exact rfl); (· (repeat (first | exact List.Mem.head _ | apply List.Mem.tail))); (· (repeat (first | exact Seg.nil | (apply Seg.cons; (· exact rfl)))))) | (apply Loads.row; (· (repeat (first | exact List.Mem.head _ | apply List.Mem.tail))); (first | (rotate_left; (· exact rfl); rotate_right; (· assumption)) | ((· assumption); (· exact rfl))); (· exact rfl); (· exact rfl); (· exact rfl)) | (apply Loads.row1; (· (repeat (first | exact List.Mem.head _ | apply List.Mem.tail))); (first | (rotate_left; (· exact rfl); rotate_right; (· assumption)) | ((· assumption); (· exact rfl))); (· exact rfl)) | (apply Loads.rowF; (· (repeat (first | exact List.Mem.head _ | apply List.Mem.tail))); (first | (rotate_left; (· exact rfl); rotate_right; (· assumption)) | ((· assumption); (· exact rfl))); (· exact rfl); (· exact rfl)) | (apply Loads.prow; (· assumption); (first | (rotate_left; (· exact rfl); rotate_right; (· assumption)) | ((· assumption); (· exact rfl))); (· exact rfl); (· exact rfl); (· exact rfl)) | (apply Loads.prow1; (· assumption); (first | (rotate_left; (· exact rfl); rotate_right; (· assumption)) | ((· assumption); (· exact rfl))); (· exact rfl)) | (apply Loads.prowF; (· assumption); (first | (rotate_left; (· exact rfl); rotate_right; (· assumption)) | ((· assumption); (· exact rfl))); (· exact rfl); (· exact rfl)) | (apply Loads.rrow; (· assumption); (first | (rotate_left; (· exact rfl); rotate_right; (· assumption)) | ((· assumption); (· exact rfl))); (· exact rfl); (· exact rfl); (· exact rfl)) | (apply Loads.rrow1; (· assumption); (first | (rotate_left; (· exact rfl); rotate_right; (· assumption)) | ((· assumption); (· exact rfl))); (· exact rfl)) | (apply Loads.rrowF; (· assumption); (first | (rotate_left; (· exact rfl); rotate_right; (· assumption)) | ((· assumption); (· exact rfl))); (· exact rfl); (· exact rfl)) | (apply Loads.rowS; (· (repeat (first | exact List.Mem.head _ | apply List.Mem.tail))); (first | (rotate_left; (· exact rfl); rotate_right; (· assumption)) | ((· assumption); (· exact rfl))); (· exact rfl); (· exact rfl); (· (repeat (first | exact Seg.nil | (apply Seg.cons; (· exact rfl))))))))))); (· exact rfl)))
  · exact ⟨_, rfl, rfl, rfl⟩
def yTk (by_ lp : Nat) : Eng.Item := .blk by_ (.cells [.func (.yield lp) #[] #[]].toArray 115 (0, 0))
/-- where the iterator stands behind some units -/
def AtT (bs by_ lp : Nat) (J : List Tk → Mem → SHeap → Prop) (pre : List Un) (m' : Mem) (Hl : SHeap) : Prop :=
  ∃ (s : Sc) (told : List Tk) (H1 : SHeap), (∀ post, scGo scan0 (pre ++ post) = told ++ scGo s post) ∧ Hl = [ScAt bs s, yTk by_ lp] ++ H1 ∧ J told m' H1
/-- where it was left -/
def LeftT (l : List UInt8) (Jx : List Tk → Mem → SHeap → Prop) (cd : Code) (m' : Mem) (Hl : SHeap) : Prop :=
  cd = .ret ∧ ∃ (X H1 : SHeap) (told : List Tk), Hl = X ++ H1 ∧ told <+: tokens l ∧ Jx told m' H1
theorem scan_seq (l : List UInt8) (hl : l.length ≤ 9223372036854775800) (b : Nat) : SeqM Try.prog 41 [.pointer (some ⟨b, 0, none⟩)] (fun t : Tk => [t.v]) (tokens l) (TextAt b l) := by
  intro w0 lp J Jx m H mJ mX hcap h0 hY
  have hcap' : m b = some (.cells [str l].toArray 9 (0, 0)) := hcap
  have hYT : YTk w0 lp (tokens l) J Jx m := hY
  refine Does.of_body Try.func41 rfl Try.ntmps41 rfl ?_
  (refine st ?_; intros; rename_i by_ bs)
  refine w_callF Try.func42 ?_ (hs := units_any _ _ _ _)
  rintro v m H0 ⟨bu, rfl, rfl, rfl⟩
  refine WL.persist (b := bu) (by (repeat (first | exact Out.here | apply Out.there))) ?_
  intro m1 hle1 hbu
  (try (refine st ?_; intros))
  refine WC.rangeFuncM (encs := fun u : Un => [u.v]) (xs := unitsL l) (Cap := TextAt bu l) (lb := [.pointer (some ⟨bu, 0, none⟩)]) (ps := [7]) (Hc := [])
    (J := fun pre m' Hl => m.le m' ∧ AtT bs by_ lp J pre m' Hl) (Jx := fun cd _ m' Hl => LeftT l Jx cd m' Hl)
    rfl Try.func56 rfl rfl (units_seq l (by omega) bu) hbu (fun _ => rfl) rfl ?_ ?_ Tail.all ?_ ?_ ?_ ?_
  · rintro pre m2 m3 Hl ⟨h1, s, told, H1, h2, h3, h4⟩ hle
    exact ⟨h1.trans hle, s, told, H1, h2, h3, mJ _ _ _ _ h4 hle⟩
  · rintro c pre m2 m3 Hl ⟨h1, X, H1, told, h2, h3, h4⟩ hle
    exact ⟨h1, X, H1, told, h2, h3, mX _ _ _ _ h4 hle⟩
  · exact ⟨hle1, scan0, [], H, fun _ => rfl, rfl, mJ _ _ _ _ h0 hle1⟩
  · rintro lp2 pre u post hx m2 Hl ⟨hle2, s, told, H1, hcl, rfl, hJ⟩ hm2 Hfr hfr
    have hstep : ∀ post, scGo scan0 ((pre ++ [u]) ++ post) = (told ++ s.told u) ++ scGo (s.step u) post := fun post => by
      rw [List.append_assoc, List.append_assoc]; exact hcl (u :: post)
    have hall : tokens l = told ++ (s.told u ++ scGo (s.step u) post) := by unfold tokens; rw [hx]; exact hcl (u :: post)
    simp only [yTk, List.cons_append, List.nil_append, List.append_assoc]
    (refine st ?_; intros; rename_i bp)
    refine WQ.assignedIn (.cons (.cons (.cons Tail.app))) (Mem.le.refl _) ?_
    intro Hfr2 hfr2
    simp only [List.cons_append, Un.cs]
    (try (refine st ?_; intros))
    refine WL.heap (H' := ScAt bs s :: .blk bp (.cells u.cs.toArray 118 (0, 0)) :: yTk by_ lp :: (H1 ++ Hfr2)) zpk ?_
    refine w_callF Try.func43 ?_ (hs := fits_any s u _ _ _)
    rintro v m9 H9 ⟨rfl, rfl, rfl⟩
    have hf2 := (fitsS_le s.st u).1
    obtain ⟨e, he⟩ : ∃ e, (fitsS s.st u).1 = e := ⟨_, rfl⟩
    rw [he] at hf2 ⊢
    have hcase : e = 0 ∨ e = 1 ∨ e = 2 := by omega
    rcases hcase with rfl | rfl | rfl
    · have htold : s.told u = endS s := by unfold Sc.told; rw [if_pos he]
      rw [fit_zero he]
      rw [htold] at hall hstep
      rw [step_zero he] at hstep
      (try (refine st ?_; intros))
      refine WL.heap (fun w h => h.perm (perm_frame [_, _, _] H1 Hfr2)) ?_
      refine w_callF Try.func44 ?_ (hs := end_any s (.blk bp (.cells u.cs.toArray 118 (0, 0)) :: yTk by_ lp :: Hfr2) hYT hall hJ hle2)
      rintro v m5 H9 ⟨hle5, H5, rfl, hP⟩
      refine WL.heap (fun w h => h.perm (perm_frame [_, _, _] H5 Hfr2).symm) ?_
      rcases hP with ⟨rfl, hJ5⟩ | ⟨rfl, told2, hpre, hJ5⟩
      · simp only [List.cons_append, List.nil_append, Un.cs, yTk]
        (try (refine st ?_; intros))
        refine WL.heap (H' := ScAt bs s :: .blk bp (.cells u.cs.toArray 118 (0, 0)) :: yTk by_ lp :: (H5 ++ Hfr2)) zpk ?_
        refine w_callF Try.func45 ?_ (hs := begin_any s u _ _ _)
        rintro v m9 H9 ⟨rfl, rfl⟩
        (try (refine st ?_; intros))
        exact WQ.roundOn (Hl := [ScAt bs (s.begin_ u), yTk by_ lp] ++ H5) zpk hle5 ⟨hle2.trans hle5, s.begin_ u, told ++ endS s, H5, hstep, rfl, hJ5⟩
      · simp only [List.cons_append, List.nil_append]
        (try (refine st ?_; intros))
        exact WQ.roundRet (Hl := [_, _, _] ++ H5) (fun w h => by simpa using h) hle5 ⟨rfl, _, H5, told2, rfl, hpre, hJ5⟩
    · have htold : s.told u = [] := by unfold Sc.told; rw [if_neg (by omega)]
      rw [htold, List.append_nil, step_one he] at hstep
      simp only [Un.cs, ScAt, Sc.cs, yTk]
      (try (refine st ?_; intros))
      exact WQ.roundOn (Hl := [ScAt bs ⟨(s.fit u).st, ⟨(s.fit u).t.k, (s.fit u).t.a, u.z⟩, (s.fit u).h⟩, yTk by_ lp] ++ H1) zpk (Mem.le.refl _) ⟨hle2, _, told, H1, hstep, rfl, hJ⟩
    · have htold : s.told u = [] := by unfold Sc.told; rw [if_neg (by omega)]
      rw [htold, List.append_nil, step_two he] at hstep
      simp only [Un.cs, yTk]
      (try (refine st ?_; intros))
      exact WQ.roundOn (Hl := [ScAt bs (s.fit u), yTk by_ lp] ++ H1) zpk (Mem.le.refl _) ⟨hle2, _, told, H1, hstep, rfl, hJ⟩
  · rintro D m2 Hl ⟨hle2, s, told, H1, hcl, rfl, hJ⟩ hm2
    have hall : tokens l = told ++ (endS s ++ []) := by
      have := hcl []
      rw [List.append_nil] at this
      unfold tokens
      rw [this, List.append_nil]; rfl
    simp only [yTk, List.cons_append, List.nil_append, List.append_assoc]
    (try (refine st ?_; intros))
    refine WL.heap (fun w h => h.perm (perm_frame [_, _] H1 [.blk D (.deferred (some []))])) ?_
    refine w_callF Try.func44 ?_ (hs := end_any s (yTk by_ lp :: [.blk D (.deferred (some []))]) hYT hall hJ hle2)
    rintro v m5 H9 ⟨hle5, H5, rfl, hP⟩
    refine WL.heap (fun w h => h.perm (perm_frame [_, _] H5 [.blk D (.deferred (some []))]).symm) ?_
    have hP2 : J (tokens l) m5 H5 ∨ ∃ told, told <+: tokens l ∧ Jx told m5 H5 := by
      rcases hP with ⟨_, h⟩ | ⟨_, h⟩
      · left; rw [hall, List.append_nil]; exact h
      · exact .inr h
    simp only [List.cons_append, List.nil_append]
    (try (refine st ?_; intros))
    refine WQ.markNorm (H1 := [_, _] ++ H5) (List.perm_append_comm (l₁ := [_, _] ++ H5) (l₂ := [_])) ?_
    exact q_finNorm0 (H0 := H5) ⟨hle2.trans hle5, hP2⟩ (hd := fun w h => h.drop.drop)
  · rintro D cd pre2 m4 Hl _ ⟨rfl, X, H4, told', rfl, hpre, hJ4⟩ hm4
    (try (refine st ?_; intros))
    refine WQ.mark (H1 := X ++ H4) List.perm_append_comm ?_
    exact q_fin0 (H0 := H4) ⟨hle1.trans hm4, .inr ⟨told', hpre, hJ4⟩⟩ (hd := fun w h => drops_app h)
end Go.Proofs.Ytgckeelnhafgaaa

/-
  The walk of draft.tokens. No condition.
-/
namespace Go.Eng
open Go
def strs (l : List Tx) : List (List Value) := l.map fun x => [str x]
theorem toks_length0 (l : List UInt8) : (toks l).length = (tokens l).length := List.length_map _
theorem strs_length (l : List Tx) : (strs l).length = l.length := List.length_map _
end Go.Eng
namespace Go.Proofs.Ytgckeelnhafgaaa
open Go Go.Eng
set_option maxRecDepth 100000
set_option maxHeartbeats 4000000
set_option linter.all false
attribute [local irreducible] WL WC WQ QFun QLoop Does Q1 QRound QAssign Go.Addr.add
attribute [local irreducible] tokens
theorem toks_any (l : List UInt8) (hl : l.length ≤ 4194304) (w0 : World) (m : Mem) (H : SHeap) : Does Try.prog 21 #[str l] w0 m H (fun v m' H' => m.le m' ∧ ∃ a cp, v = .slice a (toks l).length cp ∧ H' = .row a cp 9 1 (strs (toks l)) :: H) := by
  refine Does.of_body (args := [str l]) Try.func21 rfl Try.ntmps21 rfl ?_
  (refine st ?_; intros; rename_i b1 b3)
  refine w_callF Try.func25 ?_ (hs := scan_any _ _ _ _)
  rintro v m H ⟨b, rfl, rfl, rfl⟩
  (try (refine st ?_; intros))
  refine WC.persist (b := b) (by (repeat (first | exact Out.here | apply Out.there))) ?_
  intro m1 hle1 hb
  refine WC.newRow (T := 9) (sz := 1) ?_
  refine WC.rangeFuncM (encs := fun t : Tk => [t.v]) (xs := tokens l) (Cap := TextAt b l) (lb := [.pointer (some ⟨b, 0, none⟩)]) (ps := [7])
    (J := fun pre m' Hl => m.le m' ∧ ∃ a cp, Hl = [.row a cp 9 1 (strs (pre.map (tokT l))), .blk b3 (.cells [.slice a pre.length cp].toArray 26 (0, 0)), .blk b1 (.cells [str l].toArray 9 (0, 0))]) (Jx := fun _ _ _ _ => False)
    rfl Try.func41 rfl rfl (scan_seq l (by omega) b) hb (fun _ => rfl) rfl (fun _ _ _ _ h hm => ⟨h.1.trans hm, h.2⟩) (fun _ _ _ _ _ h _ => h) (.cons (.cons (.cons .nil))) ⟨hle1, none, 0, rfl⟩ ?_ ?_ ?_
  · rintro lp pre t post hx m2 Hl ⟨hle2, a, cp, rfl⟩ hm2 Hfr hfr
    have htl := (tokens_chain l).mem t (by rw [hx]; simp)
    have hlen : (tokens l).length ≤ l.length := by rw [← toks_length0]; exact toks_length l
    have hpl : pre.length + 1 ≤ 4194304 := by rw [hx] at hlen; simp only [List.length_append, List.length_cons] at hlen; omega
    have hsl : (strs (pre.map (tokT l))).length = pre.length := by simp [strs]
    (try (refine st ?_; intros))
    refine WQ.assigned (.cons (.cons (.cons (.cons .nil)))) (Mem.le.refl _) ?_
    intro Hfr2
    (refine st ?_; intros; rename_i bt)
    simp only [List.cons_append, List.nil_append]
    have hex : (l.take t.z).drop t.a = tokT l t := rfl
    refine WC.drawE 12 ([.blk bt (.cells [.int .i64 (t.k : Int), .int .i64 (t.a : Int), .int .i64 (t.z : Int)].toArray 81 (0, 0)), .blk b1 (.cells [str l].toArray 9 (0, 0))]) (.row a cp 9 1 (strs (pre.map (tokT l))) :: .blk b3 (.cells [.slice a pre.length cp].toArray 26 (0, 0)) :: Hfr2) rfl (by decide +kernel) zpk ?_
    (refine cm0 ?_)
    refine WE.act2 0 9 (by decide +kernel) rfl rfl (fun c h => by cases h) rfl rfl (fun c h => by cases h) ?_ ?_
    · (try (refine st ?_; intros))
      refine WQ.acted (B := []) (U := .row a cp 9 1 (strs (pre.map (tokT l))) :: .blk b3 (.cells [.slice a pre.length cp].toArray 26 (0, 0)) :: Hfr2) rfl (Mem.le.refl _) zpk ?_
      (refine cm0 ?_)
      refine WE.act1 9 (by decide +kernel) rfl rfl (fun c h => by cases h) ?_
      (refine st ?_; intros; rename_i b9)
      refine WQ.acted (B := [.blk b9 (.cells [str (tokT l t)].toArray 9 (0, 0))]) (U := .row a cp 9 1 (strs (pre.map (tokT l))) :: .blk b3 (.cells [.slice a pre.length cp].toArray 26 (0, 0)) :: Hfr2) rfl (Mem.le.refl _) zpk ?_
      (refine cm0 ?_)
      refine WE.act1 10 (by decide +kernel) rfl rfl (fun c h => by cases h) ?_
      (refine st ?_; intros; rename_i a2 cp2)
      rw [hsl]
      refine WQ.acted (B := []) (U := .row a2 cp2 9 1 (strs (pre.map (tokT l)) ++ [[str (tokT l t)]]) :: .blk b3 (.cells [.slice a pre.length cp].toArray 26 (0, 0)) :: Hfr2) rfl (Mem.le.refl _) zpk ?_
      (refine cm0 ?_)
      refine WE.act0 11 (by decide +kernel) rfl rfl (fun c h => by cases h) ?_
      (try (refine st ?_; intros))
      refine WQ.stored (B := []) (U := .row a2 cp2 9 1 (strs (pre.map (tokT l)) ++ [[str (tokT l t)]]) :: .blk b3 (.cells [.slice a2 (pre.length + 1) cp2].toArray 26 (0, 0)) :: Hfr2) (Mem.le.refl _) zpk ?_
      refine WE.done (by decide +kernel) ?_
      (try (refine st ?_; intros))
      exact WQ.roundOn (Hl := [.row a2 cp2 9 1 (strs (pre.map (tokT l)) ++ [[str (tokT l t)]]), .blk b3 (.cells [.slice a2 (pre.length + 1) cp2].toArray 26 (0, 0)), .blk b1 (.cells [str l].toArray 9 (0, 0))]) zpk (Mem.le.refl _) ⟨hle2, a2, cp2, by simp [strs]⟩
    · (refine st ?_; intros; rename_i b9)
      refine WQ.acted (B := [.blk b9 (.cells [str (tokT l t)].toArray 9 (0, 0))]) (U := .row a cp 9 1 (strs (pre.map (tokT l))) :: .blk b3 (.cells [.slice a pre.length cp].toArray 26 (0, 0)) :: Hfr2) rfl (Mem.le.refl _) zpk ?_
      (refine cm0 ?_)
      refine WE.act1 0 (by decide +kernel) rfl rfl (fun c h => by cases h) ?_
      (try (refine st ?_; intros))
      refine WQ.acted (B := []) (U := .row a cp 9 1 (strs (pre.map (tokT l))) :: .blk b3 (.cells [.slice a pre.length cp].toArray 26 (0, 0)) :: Hfr2) rfl (Mem.le.refl _) zpk ?_
      (refine cm0 ?_)
      refine WE.act1 10 (by decide +kernel) rfl rfl (fun c h => by cases h) ?_
      (refine st ?_; intros; rename_i a2 cp2)
      rw [hsl]
      refine WQ.acted (B := []) (U := .row a2 cp2 9 1 (strs (pre.map (tokT l)) ++ [[str (tokT l t)]]) :: .blk b3 (.cells [.slice a pre.length cp].toArray 26 (0, 0)) :: Hfr2) rfl (Mem.le.refl _) zpk ?_
      (refine cm0 ?_)
      refine WE.act0 11 (by decide +kernel) rfl rfl (fun c h => by cases h) ?_
      (try (refine st ?_; intros))
      refine WQ.stored (B := []) (U := .row a2 cp2 9 1 (strs (pre.map (tokT l)) ++ [[str (tokT l t)]]) :: .blk b3 (.cells [.slice a2 (pre.length + 1) cp2].toArray 26 (0, 0)) :: Hfr2) (Mem.le.refl _) zpk ?_
      refine WE.done (by decide +kernel) ?_
      (try (refine st ?_; intros))
      exact WQ.roundOn (Hl := [.row a2 cp2 9 1 (strs (pre.map (tokT l)) ++ [[str (tokT l t)]]), .blk b3 (.cells [.slice a2 (pre.length + 1) cp2].toArray 26 (0, 0)), .blk b1 (.cells [str l].toArray 9 (0, 0))]) zpk (Mem.le.refl _) ⟨hle2, a2, cp2, by simp [strs]⟩
  · rintro D m2 Hl ⟨hle2, a, cp, rfl⟩ hm2
    (try (refine st ?_; intros))
    refine WQ.mark List.perm_middle ?_
    exact q_fin0 (H0 := .row a cp 9 1 (strs (toks l)) :: H) ⟨hle2, a, cp, by rw [toks_length0], rfl⟩ (hd := zpk)
  · intro D cd pre m2 Hl _ h
    exact h.elim
end Go.Proofs.Ytgckeelnhafgaaa

/-
  A walk's engine: append to a row, its room told: a row that has none stays nil, or gets some; a Builder as the walks use it. No condition.
-/
set_option linter.all false
namespace Go.Eng
open Go Go.RowKit Go.ChangeMaps
section
variable {P : Program} {ro : Option Nat} {n : Nat} {w0 : World} {Q : Exit → Act → World → Prop} {r : Env} {ds : List Dfr} {m : Mem} {H : SHeap}
  {ops : Array Oper} {l : List Oper} {d : Nat} {ty : TypeId} {pos : String} {after : Array Edge}
theorem run_append_row2 {t tx e : TypeId} {sz by' : Nat} {z : Value} {a : Option Addr} {cap : Nat} {es es' : List (List Value)} {x : Value} {w : World} (hu : P.underlying t = some (.slice e)) (hz : zeroB P e = some z) (hsz : sizeB P e = some sz) (hby : bytesB P e = some by')
    (hzs : z.cells.size = sz) (hs : Sat w0 m (.row a cap e sz es :: H) w) (hx : Src P sz tx x es'.length es'.flatten w) (hes : ∀ q ∈ es', q.length = sz) (h63 : es.length + es'.length ≤ 9223372036854775807) (hb : (es.length + es'.length) * by' ≤ 140737488355328) :
    ∃ a' cap' w', (Builtin.append_ #[t, tx] ty #[.slice a es.length cap, x]).run P w = .ok (.slice a' (es ++ es').length cap') w' ∧ Sat w0 m (.row a' cap' e sz (es ++ es') :: H) w' ∧ ((a = none ∨ 0 < cap) → (a' = none ∨ 0 < cap')) := by
  obtain ⟨i, hi, hib, _⟩ := run_info hby w
  have his : i.size = sz := by
    unfold sizeB at hsz; rw [hi] at hsz; simpa [lit_eq] using hsz
  have hiz : i.zero = some z := by
    unfold zeroB at hz; rw [hi] at hz; simpa using hz
  have hold : Item.holds w (.row a cap e sz es) := hs.own _ List.mem_cons_self
  by_cases hroom : es.length + es'.length ≤ cap
  · -- there is room
    cases a with
    | none =>
      have h1 : es = [] ∧ cap = 0 := hold
      obtain ⟨h1, h2⟩ := h1
      subst h1; subst h2
      have h3 : es' = [] := List.eq_nil_of_length_eq_zero (by simpa using hroom)
      subst h3
      refine ⟨none, 0, w, ?_, by simpa using hs, fun _ => .inl rfl⟩
      rcases hx.kind with ⟨e', hk⟩ | hk <;> simp [Builtin.append_, run_underlying hu, run_underlying hk, sizeOf, typeInfo, hi, hx.len, his]
      all_goals
        have := hx.cells
        simp at this
        simp [this]
    | some a =>
      obtain ⟨arr, fz, g1, g2, g3, g4, g5, g6, g7⟩ := hold
      have hal : a = ⟨a.block, 0, none⟩ := g1
      generalize hbk : a.block = b at *
      subst g1
      have hlen1 := flatten_length g6
      have hlen2 := flatten_length hes
      have hfitA : es.length * sz + es'.flatten.length ≤ arr.toList.length := by
        have hL : arr.toList.length = cap * sz := by simp [g3]
        rw [hlen2, ← Nat.add_mul, hL]; exact Nat.mul_le_mul_right _ hroom
      have hb1 : Sat w0 m (.blk b (.cells arr.toList.toArray e fz) :: H) w := by
        refine hs.turn (j := .blk b (.cells arr.toList.toArray e fz)) rfl rfl rfl (Nat.le_refl _) (fun _ _ _ => rfl) (by simpa [Item.holds] using g2) (fun y hy => .inl (by simpa [Item.foot] using hy)) (by simp [Item.foot])
      obtain ⟨w', k1, k2⟩ := run_laid (P := P) es'.flatten 0 (es.length * sz) arr.toList H w (by simpa using hfitA) (by rcases g7.1 with h | h; exact .inl h; exact .inr (.inr (by simpa using h))) (List.all_eq_true.2 fun u hu => hx.one u hu) hb1
      refine ⟨some ⟨b, 0, none⟩, cap, w', ?_, ?_, fun h => .inr (h.resolve_left (by simp))⟩
      · rcases hx.kind with ⟨e', hk⟩ | hk <;>
          simp [Builtin.append_, run_underlying hu, run_underlying hk, sizeOf, typeInfo, hi, hx.len, his, hroom, hx.cells, Addr.add_lit, k1]
      · have hw' : w'.heap[b]? = some (.cells (laid arr.toList (es.length * sz + 0) es'.flatten).toArray e fz) := k2.own _ List.mem_cons_self
        refine k2.turn (j := .row (some ⟨b, 0, none⟩) cap e sz (es ++ es')) rfl rfl rfl (Nat.le_refl _) (fun _ _ _ => rfl) ?_ (fun y hy => .inl (by simpa [Item.foot] using hy)) (by simp [Item.foot])
        refine ⟨_, fz, rfl, hw', ?_, by simpa using hroom, ?_, ?_, ?_⟩
        · simp [laid_length, g3]
        · simp only [Nat.add_zero, List.length_append, List.flatten_append]
          rw [Nat.add_mul, ← hlen2, take_laid _ _ _ hfitA, g5]
        · intro q hq
          rcases List.mem_append.1 hq with h | h
          · exact g6 q h
          · exact hes q h
        · exact ⟨by simpa [laid_length] using g7.1, fun hq => g7.2 (by simp only [List.length_append] at hq; omega)⟩
  · -- a new row
    have hfit := growslice_fits (bytes := i.bytes) (show cap < es.length + es'.length by omega) (by rw [hib]; exact hb)
    have holds : (∀ q ∈ es, q.length = sz) ∧ ∀ w1 : World, w1.heap = w.heap → (Builtin.firstCells i.size es.length (.slice a es.length cap)).run P w1 = .ok es.flatten.toArray w1 := by
      cases a with
      | none =>
        have h1 : es = [] ∧ cap = 0 := hold
        obtain ⟨h1, h2⟩ := h1
        subst h1
        exact ⟨(fun q hq => by cases hq), (fun w1 _ => by simp [Builtin.firstCells])⟩
      | some a =>
        have hold' := hold
        obtain ⟨arr, fz, g1, g2, g3, g4, g5, g6, _⟩ := hold
        refine ⟨g6, fun w1 hw1 => ?_⟩
        refine run_firstCells_some w1 i.size es.length a es.length cap es.flatten (by rw [his]; exact flatten_length g6) (fun j u hu => ?_)
        have hsp : a.spot = none := by rw [g1]
        have hoff : a.off = 0 := by rw [g1]
        rw [← g5, List.getElem?_take] at hu
        split at hu
        · rw [add_eq hsp, hoff]
          simp only [World.cell?, hw1, g2]
          simpa using hu
        · cases hu
    have hr := run_append_grow_src (P := P) w t tx ty e i z hu hi hiz a es.length cap es.flatten (holds.2 _ rfl) x es'.length es'.flatten (by rw [his]; exact hx) (by omega) (by omega) hfit
    have hge := grownCap_ge w (es.length + es'.length) cap e
    refine ⟨_, _, _, by rw [List.length_append]; exact hr, ?_, fun _ => .inr (by omega)⟩
    have hs2 : Sat w0 m H w.drew := hs.drop.drew
    have hs3 := hs2.alloc (.cells ((es.flatten ++ es'.flatten).toArray ++ Builtin.zeroCells z.cells (grownCap w (es.length + es'.length) cap e - (es.length + es'.length))) e (0, 0))
    refine hs3.turn (j := .row (some ⟨w.heap.size, 0, none⟩) (grownCap w (es.length + es'.length) cap e) e sz (es ++ es')) rfl rfl rfl (Nat.le_refl _) (fun _ _ _ => rfl) ?_ (fun y hy => .inl (by simpa [Item.foot] using hy)) (by simp [Item.foot])
    have hl1 := flatten_length holds.1
    have hl2 := flatten_length hes
    refine ⟨_, (0, 0), rfl, World.alloc_heap_new _ _, ?_, by simpa using hge, ?_, ?_, .inl rfl, fun _ => grownCap_le w h63 cap e⟩
    · simp only [Array.size_append, List.size_toArray, List.length_append, size_zeroCells, hzs, hl1, hl2, ← Nat.add_mul]
      congr 1; omega
    · simp only [Array.toList_append, List.flatten_append, List.length_append]
      rw [show (es.length + es'.length) * sz = (es.flatten ++ es'.flatten).length by rw [List.length_append, hl1, hl2, Nat.add_mul]]
      exact List.take_left
    · intro q hq
      rcases List.mem_append.1 hq with h | h
      · exact holds.1 q h
      · exact hes q h
theorem WL.appendS2 {t tx e : TypeId} {x y : Operand} {z : Value} {a : Option Addr} {cap len : Nat} {es : List (List Value)} {s : List UInt8} {H1 : SHeap} (hx : r.ev x = some (.slice a len cap)) (hy : r.ev y = some (str s))
    (hu : P.underlying t = some (.slice e)) (hux : P.underlying tx = some .string) (ho : Out (.row a cap e 1 es) H H1) (hz : zeroB P e = some z) (hsz : sizeB P e = some 1) (hby : bytesB P e = some 1) (hzs : z.cells.size = 1) (hlen : len = es.length)
    (hb : es.length + s.length ≤ 140737488355328) (hd : Nat.blt d n = true)
    (h : ∀ a' cap', ((a = none ∨ 0 < cap) → (a' = none ∨ 0 < cap')) → WL P ro n w0 ops Q l ((d, .slice a' (es.length + s.length) cap') :: r) ds m (.row a' cap' e 1 (es ++ s.map fun b => [Value.int .u8 (b.toNat : Int)]) :: H1)) :
    WL P ro n w0 ops Q (⟨some d, .call ⟨.builtin .append, #[x, y], #[t, tx]⟩, ty, pos, after, none⟩ :: l) r ds m H := by
  subst hlen
  refine .gen (fun v m' H' => ∃ a' cap', ((a = none ∨ 0 < cap) → (a' = none ∨ 0 < cap')) ∧ v = .slice a' (es.length + s.length) cap' ∧ m' = m ∧ H' = .row a' cap' e 1 (es ++ s.map fun b => [Value.int .u8 (b.toNat : Int)]) :: H1) hd (fun _ h => by cases h) (fun tmps w hok hs => ?_)
    (by rintro _ _ _ ⟨a', cap', hc, rfl, rfl, rfl⟩; exact h a' cap' hc)
  have hl : (s.map fun b => [Value.int .u8 (b.toNat : Int)]).length = s.length := List.length_map _
  obtain ⟨a', cap', w', h1, h2, h3⟩ := run_append_row2 (P := P) (ty := ty) (tx := tx) (es' := s.map fun b => [Value.int .u8 (b.toNat : Int)]) (x := str s) hu hz hsz hby hzs (hs.perm ho.perm)
    (by have := (Source.str (P := P) (w0 := w0) (m := m) (H := H) hux s) w hs; rw [hl, show (s.map fun b => [Value.int IntKind.u8 (b.toNat : Int)]).flatten = s.map fun b => Value.int .u8 (b.toNat : Int) from flatten_single _ s]; exact this) (by simp) (by rw [hl]; omega) (by rw [hl]; omega)
  rw [List.length_append, hl] at h1
  refine ⟨.slice a' (es.length + s.length) cap', m, _, w', ?_, h2, a', cap', h3, rfl, rfl, rfl⟩
  simp only [execOp, resolve, invoke, builtin, Sem.run_bind, Sem.run_pure, Result.andThen_ok, List.map_toArray, List.map_cons, List.map_nil, hok.ev hx, hok.ev hy, h1]
end
theorem rowR_blk {w0 : World} {m : Mem} {H : SHeap} {b sz : Nat} {L : List Value} {T : TypeId} {fz : Nat × Nat} {es : List (List Value)} (hm : Item.blk b (.cells L.toArray T fz) ∈ H) (hL : L = es.flatten) (hes : ∀ e ∈ es, e.length = sz) : RowR w0 m H sz (Option.some ⟨b, 0, none⟩) es := by
  intro w hs
  refine ⟨hes, fun j v hj => ?_⟩
  have h : w.heap[b]? = Option.some (.cells L.toArray T fz) := hs.own _ hm
  rw [add_eq rfl]
  subst hL
  simp only [Nat.zero_add, World.cell?, h]
  simpa using hj
end Go.Eng

/-
  The walk of draft.long. No condition.
-/
namespace Go.Proofs.Ytgckeelnhafgaaa
open Go Go.Eng
set_option maxRecDepth 100000
set_option maxHeartbeats 4000000
set_option linter.all false
attribute [local irreducible] WL WC WQ QFun QLoop Does Q1 QRound QAssign Go.Addr.add
def Long (L : List Tx) : Prop := ∃ x ∈ L, 65536 < x.length
instance (L : List Tx) : Decidable (Long L) := by unfold Long; infer_instance
theorem long1_any (x : Tx) (w0 : World) (m : Mem) (H : SHeap) : Does Try.prog 50 #[str x] w0 m H (Gives (.bool (dcd (65536 < x.length))) m H) := by
  refine Does.of_body (args := [str x]) Try.func50 rfl Try.ntmps50 rfl ?_
  (try (refine st ?_; intros))
  (refine q_fin0 ?_)
  exact Gives.mk (congrArg _ (dcd_cong (by omega)))
theorem idxf_any {L : List Tx} {a : Option Addr} {c : Nat} {w0 : World} {m : Mem} {H : SHeap} (hl : L.length ≤ 5000000) (ha : RowR w0 m H 1 a (strs L)) :
    Does Try.prog 65 #[.slice a L.length c, .func (.func 50) #[] #[]] w0 m H (fun v m' H' => m' = m ∧ H' = H ∧ ∃ i : Int, v = .int .i64 i ∧ (0 ≤ i ↔ Long L)) := by
  refine Does.of_body (args := [.slice a L.length c, .func (.func 50) #[] #[]]) Try.func65 rfl Try.ntmps65 rfl ?_
  have hn1 : (strs L).length = L.length := by simp [strs]
  (try (refine st ?_; intros))
  refine WC.loopH [(8, .int .i64 ((0) : Int)), (7, .int .i64 (L.length : Int)), (0, .slice a L.length c), (1, .func (.func 50) #[] #[])] ?_ ?_ (fun j r ds m' H' => ∃ i, j = L.length - i ∧ r = [(8, .int .i64 (i : Int)), (7, .int .i64 (L.length : Int)), (0, .slice a L.length c), (1, .func (.func 50) #[] #[])] ∧ ds = [] ∧ m = m' ∧ H' = H ∧ (i ≤ L.length) ∧ (¬ Long (L.take i))) (L.length - (0)) ⟨0, rfl, rfl, rfl, rfl, rfl, by omega, by rintro ⟨x, hx, _⟩; simp at hx⟩ ?_
  · (repeat (first | exact Env.Sub.nil | refine Env.Sub.cons rfl ?_))
  · exact zpk
  rintro j r ds m' H' ⟨i, rfl, rfl, rfl, rfl, rfl, hi, hpre⟩
  by_cases hlt : i < L.length
  · obtain ⟨x, hx⟩ : ∃ x, L[i]? = some x := ⟨_, List.getElem?_eq_getElem hlt⟩
    have hgx : (strs L)[i]? = some [str x] := by unfold strs; rw [List.getElem?_map, hx]; rfl
    have htk : L.take (i + 1) = L.take i ++ [x] := by
      rw [List.take_succ, hx]; rfl
    generalize hE1 : strs L = E1 at *
    refine WC.rSome ha (by omega) ?_
    rintro a0 rfl
    (try (refine st ?_; intros))
    refine WL.callV rfl Try.func50 rfl rfl (by exact rfl) (by exact rfl) (long1_any x _ _ _) ?_
    rintro v m H ⟨rfl, rfl, rfl⟩
    by_cases hx2 : 65536 < x.length
    · rw [dcd_true hx2]
      (try (refine st ?_; intros))
      exact q_fin0 (H0 := H) ⟨rfl, rfl, i, rfl, ⟨fun _ => ⟨x, List.mem_of_getElem? hx, hx2⟩, fun _ => by omega⟩⟩ (hd := zpk)
    · rw [dcd_false hx2]
      (try (refine st ?_; intros))
      refine WQ.next (L.length - (i + 1)) ⟨i + 1, rfl, rfl, rfl, rfl, rfl, ?_, ?_⟩ (by omega) zsb zpk
      · omega
      · rw [htk]
        rintro ⟨y, hy, hy2⟩
        rcases List.mem_append.1 hy with h | h
        · exact hpre ⟨y, h, hy2⟩
        · rw [List.mem_singleton] at h; subst h; exact hx2 hy2
  · rw [List.take_of_length_le (by omega)] at hpre
    (try (refine st ?_; intros))
    exact q_fin0 (H0 := H') ⟨rfl, rfl, -1, rfl, ⟨fun h => by omega, fun h => absurd h hpre⟩⟩ (hd := zpk)
theorem contf_any {L : List Tx} {a : Option Addr} {c : Nat} {w0 : World} {m : Mem} {H : SHeap} (hl : L.length ≤ 5000000) (ha : RowR w0 m H 1 a (strs L)) :
    Does Try.prog 49 #[.slice a L.length c, .func (.func 50) #[] #[]] w0 m H (Gives (.bool (dcd (Long L))) m H) := by
  refine Does.of_body (args := [.slice a L.length c, .func (.func 50) #[] #[]]) Try.func49 rfl Try.ntmps49 rfl ?_
  (try (refine st ?_; intros))
  refine w_callF Try.func65 ?_ (hs := idxf_any hl ha)
  rintro v m H ⟨rfl, rfl, i, rfl, hi⟩
  (try (refine st ?_; intros))
  exact q_fin0 (H0 := H) (Gives.mk (congrArg _ (dcd_cong hi))) (hd := zpk)
theorem long_any {L : List Tx} {a : Option Addr} {c : Nat} {w0 : World} {m : Mem} {H : SHeap} (hl : L.length ≤ 5000000) (ha : RowR w0 m H 1 a (strs L)) :
    Does Try.prog 29 #[.slice a L.length c] w0 m H (Gives (.bool (dcd (Long L))) m H) := by
  refine Does.of_body (args := [.slice a L.length c]) Try.func29 rfl Try.ntmps29 rfl ?_
  (try (refine st ?_; intros))
  refine w_callF Try.func49 ?_ (hs := contf_any hl ha)
  rintro v m H ⟨rfl, rfl, rfl⟩
  (try (refine st ?_; intros))
  exact q_fin0 (H0 := H) (Gives.mk rfl) (hd := zpk)
end Go.Proofs.Ytgckeelnhafgaaa

/-
  A walk's engine: runes as bytes: conversions to 32 bits, bits laid together. No condition.
-/
set_option linter.all false
namespace Go.Eng
open Go Go.RowKit
section
variable {P : Program} {ro : Option Nat} {n : Nat} {w0 : World} {Q : Exit → Act → World → Prop} {r : Env} {ds : List Dfr} {m : Mem} {H : SHeap}
  {ops : Array Oper} {l : List Oper} {d : Nat} {ty : TypeId} {pos : String} {after : Array Edge} {x : Operand} {k : IntKind} {a : Int}
end
end Go.Eng

/-
  A walk's engine: numbers of 64 bits worked out, stores into an array at a place, the rest of an array as a slice, and as a text. No condition.
-/
set_option linter.all false
namespace Go.Eng
open Go Go.RowKit
theorem NF.self : ∀ (L : List Value), NF L L
  | [] => .nil rfl
  | v :: L => .cons rfl (NF.self L)
section
variable {P : Program} {ro : Option Nat} {n : Nat} {w0 : World} {Q : Exit → Act → World → Prop} {r : Env} {ds : List Dfr} {m : Mem} {H : SHeap}
  {ops : Array Oper} {l : List Oper} {d : Nat} {ty : TypeId} {pos : String} {after : Array Edge} {t t' : TypeId} {x y : Operand} {a b : Int}
end
theorem WQ.rowCap {n : Nat} {w0 : World} {Q : Exit → Act → World → Prop} {e : Exit} {r : Env} {ds : List Dfr} {m : Mem} {H : SHeap} {a : Option Addr} {cap : Nat} {T : TypeId} {sz : Nat} {es : List (List Value)} (hm : Item.row a cap T sz es ∈ H) (h : es.length ≤ cap → WQ n w0 Q e r ds m H) : WQ n w0 Q e r ds m H :=
  fun tmps w ho hs => h (row_cap hs hm) tmps w ho hs
end Go.Eng

/-
  A walk's engine: maps whose keys are numbers, made by the call itself. No condition.
-/
set_option linter.all false
namespace Go.Eng
open Go Go.RowKit
/-- a map's entries, in the order in which they came -/
def mapE (q : IntKind) : Nat → List (Int × Value) → List MapEntry
  | _, [] => []
  | i, p :: l => ⟨.int q p.1, p.2, i⟩ :: mapE q (i + 1) l
def mapO (q : IntKind) (l : List (Int × Value)) : Obj := .map (mapE q 0 l).toArray l.length
theorem mapE_snoc (q : IntKind) (x : Int × Value) : ∀ (l : List (Int × Value)) (i : Nat), mapE q i (l ++ [x]) = mapE q i l ++ [⟨.int q x.1, x.2, i + l.length⟩]
  | [], i => rfl
  | p :: l, i => by
    simp only [List.cons_append, mapE, mapE_snoc q x l, List.length_cons]
    congr 4
    omega
theorem find_none (q q' : IntKind) (k : Int) : ∀ (l : List (Int × Value)) (i n : Nat), l.lookup k = none → Instr.findNow (.int q') (.int q k) (mapE q n l) i = some none
  | [], i, n, _ => rfl
  | (a, v) :: l, i, n, h => by
    rw [List.lookup_cons] at h
    cases hb : k == a with
    | true => rw [hb] at h; cases h
    | false =>
      rw [hb] at h
      simp only [mapE, Instr.findNow, Instr.sameNow, if_true, hb]
      exact find_none q q' k l (i + 1) (n + 1) h
theorem find_some (q q' : IntKind) (k : Int) (z : Value) : ∀ (l : List (Int × Value)) (i n : Nat), l.lookup k = some z → ∃ j, Instr.findNow (.int q') (.int q k) (mapE q n l) i = some (some (j, z))
  | [], i, n, h => by cases h
  | (a, v) :: l, i, n, h => by
    rw [List.lookup_cons] at h
    cases hb : k == a with
    | true =>
      rw [hb] at h
      cases h
      exact ⟨i, by simp only [mapE, Instr.findNow, Instr.sameNow, if_true, hb]⟩
    | false =>
      rw [hb] at h
      obtain ⟨j, hj⟩ := find_some q q' k z l (i + 1) (n + 1) h
      exact ⟨j, by simp only [mapE, Instr.findNow, Instr.sameNow, if_true, hb]; exact hj⟩
theorem run_checkKey {P : Program} {q' q : IntKind} {kt : TypeId} {k : Int} {e : Bool} {w : World} (hk : P.underlying kt = some (.int q')) : (Instr.checkKey e 10000 kt (.int q k)).run P w = .ok () w := by
  have key : ∀ j, (Instr.checkKey e (j + 1) kt (.int q k)).run P w = .ok () w := by
    intro j
    rw [Instr.checkKey]
    simp [run_underlying hk]
  exact key 9999
section
variable {P : Program} {ro : Option Nat} {n : Nat} {w0 : World} {Q : Exit → Act → World → Prop} {r : Env} {ds : List Dfr} {m : Mem} {H : SHeap}
  {ops : Array Oper} {l : List Oper} {d : Nat} {ty : TypeId} {pos : String} {after : Array Edge} {t : TypeId} {x y : Operand}
theorem WL.makeMap (q : IntKind) (hd : Nat.blt d n = true) (h : ∀ b, WL P ro n w0 ops Q l ((d, .map (some b)) :: r) ds m (.blk b (mapO q []) :: H)) :
    WL P ro n w0 ops Q (⟨some d, .makeMap t none, ty, pos, after, none⟩ :: l) r ds m H :=
  .gen (fun v m' H' => ∃ b, v = .map (some b) ∧ m' = m ∧ H' = .blk b (mapO q []) :: H) hd (fun _ h => by cases h)
    (fun tmps w ho hs => ⟨_, m, _, w.alloc (mapO q []), by
      simp only [execOp, Instr.makeMap, Option.map_none, Sem.run_bind, Sem.run_pure, run_newObj_alloc, Result.andThen_ok]
      rfl, hs.alloc _, w.heap.size, rfl, rfl, rfl⟩)
    (by rintro _ _ _ ⟨b, rfl, rfl, rfl⟩; exact h b)
theorem WL.lookOk {q q' : IntKind} {kt et : TypeId} {b : Nat} {k : Int} {z : Value} {kvs : List (Int × Value)} (hx : r.ev x = some (.map (some b))) (hy : r.ev y = some (.int q k)) (hm : Item.blk b (mapO q kvs) ∈ H)
    (hu : P.underlying t = some (.map kt et)) (hk : P.underlying kt = some (.int q')) (hz : ∀ w, (zeroValue et).run P w = .ok z w) (hd : Nat.blt d n = true)
    (h : WL P ro n w0 ops Q l ((d, .tuple #[(kvs.lookup k).getD z, .bool (kvs.lookup k).isSome]) :: r) ds m H) :
    WL P ro n w0 ops Q (⟨some d, .lookup t x y true, ty, pos, after, none⟩ :: l) r ds m H :=
  .gen (fun v m' H' => v = .tuple #[(kvs.lookup k).getD z, .bool (kvs.lookup k).isSome] ∧ m' = m ∧ H' = H) hd (fun _ h => by cases h)
    (fun tmps w ho hs => ⟨_, m, H, w, by
      have hb : w.heap[b]? = some (mapO q kvs) := hs.own _ hm
      have h1 : (getObj b).run P w = .ok (mapO q kvs) w := by simp [getObj, Sem.run, hb, mapO]
      have h2 : (Instr.lookup t (.map (some b)) (.int q k) true).run P w = .ok (.tuple #[(kvs.lookup k).getD z, .bool (kvs.lookup k).isSome]) w := by
        simp only [Instr.lookup, Sem.run_bind, run_underlying hu, Result.andThen_ok, h1]
        simp only [mapO, Sem.run_bind, Sem.run_pure, Result.andThen_ok, run_checkKey hk, Instr.findKey, run_underlying hk]
        cases hl : kvs.lookup k with
        | none =>
          rw [find_none q q' k kvs 0 0 hl]
          simp [hz, Result.andThen]
        | some v =>
          obtain ⟨j, hj⟩ := find_some q q' k v kvs 0 0 hl
          rw [hj]
          simp [Result.andThen]
      simp only [execOp, ho.ev hx, ho.ev hy, Sem.run_bind, h2, Result.andThen_ok, Sem.run_pure], hs, rfl, rfl, rfl⟩)
    (by rintro _ _ _ ⟨rfl, rfl, rfl⟩; exact h)
/-- a new key -/
theorem WL.mapNew {q q' : IntKind} {kt et : TypeId} {b : Nat} {k : Int} {v : Value} {u : Operand} {kvs : List (Int × Value)} {H' : SHeap} (hx : r.ev x = some (.map (some b))) (hy : r.ev y = some (.int q k)) (hv : r.ev u = some v)
    (hu : P.underlying t = some (.map kt et)) (hk : P.underlying kt = some (.int q')) (hr : Repl (.blk b (mapO q kvs)) (.blk b (mapO q (kvs ++ [(k, v)]))) H H') (hl : kvs.lookup k = none)
    (h : WL P ro n w0 ops Q l r ds m H') :
    WL P ro n w0 ops Q (⟨none, .mapUpdate t x y u, ty, pos, after, none⟩ :: l) r ds m H :=
  .act (fun m' H'' => m' = m ∧ H'' = H') rfl (fun _ h => by cases h)
    (fun tmps w ho hs => ⟨m, H', w.putObj b (mapO q (kvs ++ [(k, v)])), by
      have hb : w.heap[b]? = some (mapO q kvs) := hs.own _ hr.mem
      have h1 : (getObj b).run P w = .ok (mapO q kvs) w := by simp [getObj, Sem.run, hb, mapO]
      have h3 : ∀ o, (setObj b o).run P w = .ok () (w.putObj b o) := fun o => by simp [setObj, Sem.run, hb, mapO, World.putObj]
      have e1 : Obj.map ((mapE q 0 kvs).toArray.push ⟨.int q k, v, kvs.length⟩) (kvs.length + 1) = mapO q (kvs ++ [(k, v)]) := by
        unfold mapO
        rw [mapE_snoc, Nat.zero_add]
        simp
      have h2 : (Instr.mapUpdate t (.map (some b)) (.int q k) v).run P w = .ok () (w.putObj b (mapO q (kvs ++ [(k, v)]))) := by
        simp only [Instr.mapUpdate, Sem.run_bind, run_underlying hu, Result.andThen_ok, h1]
        simp only [mapO, Sem.run_bind, Sem.run_pure, Result.andThen_ok, run_checkKey hk, Instr.findKey, run_underlying hk]
        rw [find_none q q' k kvs 0 0 hl]
        simp only [Sem.run_pure, Result.andThen_ok]
        rw [e1, h3]; rfl
      simp only [execOp, ho.ev hx, ho.ev hy, ho.ev hv, h2, Sem.run_bind, Result.andThen_ok]
      try rfl, hs.replObj hr, rfl, rfl⟩)
    (by rintro _ _ ⟨rfl, rfl⟩; exact h)
end
end Go.Eng

/-
  A walk's engine: numbers of 16 bits; rows of rows, one block a row. No condition.
-/
set_option linter.all false
namespace Go.Eng
open Go Go.RowKit
theorem wrap16_id {e : Int} (h : -32768 ≤ e ∧ e ≤ 32767) : IntKind.i16.wrap e = e := by
  simp [IntKind.wrap, IntKind.signed, IntKind.bits]; omega
section
variable {P : Program} {ro : Option Nat} {n : Nat} {w0 : World} {Q : Exit → Act → World → Prop} {r : Env} {ds : List Dfr} {m : Mem} {H : SHeap}
  {ops : Array Oper} {l : List Oper} {d : Nat} {ty : TypeId} {pos : String} {after : Array Edge} {t t' : TypeId} {x y : Operand} {a b : Int}
theorem WL.add16 (hx : r.ev x = some (.int .i16 a)) (hy : r.ev y = some (.int .i16 b)) (hd : Nat.blt d n = true) (hb : -32768 ≤ a + b ∧ a + b ≤ 32767)
    (h : WL P ro n w0 ops Q l ((d, .int .i16 (a + b)) :: r) ds m H) : WL P ro n w0 ops Q (⟨some d, .binOp .add t x y t', ty, pos, after, none⟩ :: l) r ds m H :=
  .add hx hy hd (by rw [wrap16_id hb]; exact h)
end
/-- rows, each in a block of its own -/
def tabL (T : TypeId) (c : Nat) (F : Nat → List (List Value)) (bs : List Nat) : SHeap := bs.mapIdx fun i b => .row (some ⟨b, 0, none⟩) c T 1 (F i)
theorem tabL_snoc {T : TypeId} {c : Nat} {F : Nat → List (List Value)} {bs : List Nat} {b : Nat} : tabL T c F (bs ++ [b]) = tabL T c F bs ++ [.row (some ⟨b, 0, none⟩) c T 1 (F bs.length)] := by
  unfold tabL
  rw [List.mapIdx_append]
  simp
theorem tabL_split {T : TypeId} {c : Nat} {F : Nat → List (List Value)} {A B : List Nat} {b : Nat} : tabL T c F (A ++ b :: B) = tabL T c F A ++ .row (some ⟨b, 0, none⟩) c T 1 (F A.length) :: (B.mapIdx fun i b => .row (some ⟨b, 0, none⟩) c T 1 (F (i + 1 + A.length))) := by
  unfold tabL
  rw [List.mapIdx_append, List.mapIdx_cons]
  simp
theorem tabL_congr {T : TypeId} {c : Nat} {F G : Nat → List (List Value)} {A : List Nat} (h : ∀ i, i < A.length → F i = G i) : tabL T c F A = tabL T c G A := by
  unfold tabL
  apply List.ext_getElem (by simp)
  intro i h1 h2
  simp only [List.length_mapIdx] at h1
  simp [h i h1]
theorem tabL_mem {T : TypeId} {c : Nat} {F : Nat → List (List Value)} {bs : List Nat} {i b : Nat} (h : bs[i]? = some b) : Item.row (some ⟨b, 0, none⟩) c T 1 (F i) ∈ tabL T c F bs := by
  unfold tabL
  apply List.mem_of_getElem? (i := i)
  rw [List.getElem?_mapIdx, h]; rfl
/-- one row is written: the others stay -/
theorem tabL_out {T : TypeId} {c : Nat} {F G : Nat → List (List Value)} {bs : List Nat} {i b : Nat} (h : bs[i]? = some b) (hG : ∀ j, j ≠ i → F j = G j) :
    ∃ X : SHeap, List.Perm (tabL T c F bs) (.row (some ⟨b, 0, none⟩) c T 1 (F i) :: X) ∧ List.Perm (tabL T c G bs) (.row (some ⟨b, 0, none⟩) c T 1 (G i) :: X) ∧ ∀ j b', j ≠ i → bs[j]? = some b' → Item.row (some ⟨b', 0, none⟩) c T 1 (F j) ∈ X := by
  obtain ⟨hi, he⟩ := List.getElem?_eq_some_iff.1 h
  have hs : bs = bs.take i ++ b :: bs.drop (i + 1) := by
    conv => lhs; rw [← List.take_append_drop i bs, List.drop_eq_getElem_cons hi, he]
  have hl : (bs.take i).length = i := by rw [List.length_take]; omega
  refine ⟨tabL T c F (bs.take i) ++ ((bs.drop (i + 1)).mapIdx fun k b => .row (some ⟨b, 0, none⟩) c T 1 (F (k + 1 + i))), ?_, ?_, ?_⟩
  · have := tabL_split (T := T) (c := c) (F := F) (A := bs.take i) (B := bs.drop (i + 1)) (b := b)
    rw [← hs, hl] at this
    rw [this]
    exact List.perm_middle
  · have := tabL_split (T := T) (c := c) (F := G) (A := bs.take i) (B := bs.drop (i + 1)) (b := b)
    rw [← hs, hl] at this
    rw [this, tabL_congr (F := G) (G := F) (A := bs.take i) (fun j hj => (hG j (by omega)).symm)]
    have e : ((bs.drop (i + 1)).mapIdx fun k b => Item.row (some ⟨b, 0, none⟩) c T 1 (G (k + 1 + i))) = (bs.drop (i + 1)).mapIdx fun k b => Item.row (some ⟨b, 0, none⟩) c T 1 (F (k + 1 + i)) := by
      congr 1
      funext k b
      rw [hG (k + 1 + i) (by omega)]
    rw [e]
    exact List.perm_middle
  · intro j b' hj hb
    rcases Nat.lt_or_gt_of_ne hj with hlt | hgt
    · refine List.mem_append.2 (.inl (tabL_mem ?_))
      rw [List.getElem?_take, if_pos hlt]; exact hb
    · refine List.mem_append.2 (.inr ?_)
      apply List.mem_of_getElem? (i := j - (i + 1))
      rw [List.getElem?_mapIdx, List.getElem?_drop, show i + 1 + (j - (i + 1)) = j by omega, hb]
      simp only [Option.map_some]
      rw [show j - (i + 1) + 1 + i = j by omega]
end Go.Eng

/-
  A walk's engine: the loops of a function's code. No condition.
-/
set_option linter.all false
namespace Go.Eng
open Go
/-- the loops of a piece of code, each ahead of those within it -/
def loopsIn : Code → List Code
  | .seq a b => loopsIn a ++ loopsIn b
  | .block _ c | .scope c => loopsIn c
  | .loop c => .loop c :: loopsIn c
  | .cond _ a b => loopsIn a ++ loopsIn b
  | .rangeFunc _ _ a b => loopsIn a ++ loopsIn b
  | _ => []
end Go.Eng

