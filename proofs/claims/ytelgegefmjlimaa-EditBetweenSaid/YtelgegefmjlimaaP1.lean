/-
  Parts of a walk, joined: EngA EngB EngC U8 EngD. No condition.
-/
import Derived.RangeFuncNested
import Derived.RangeFuncBound
import Derived.RangeFuncCalls
import Derived.RangeFuncLeaves
import Derived.Below
import Derived.TacticsIn
import Derived.KernelRfl
import Derived.Shelf.Abstract
import Derived.Laws.Strings
import Derived.IntWalk
/-
  A walk's engine, first part: what is known of a frame's slots and of the heap, kept apart from the worlds themselves, and the rules for code. No condition.
-/
set_option linter.all false
namespace Go.Eng
open Go Go.RowKit

/-! ### slots -/
abbrev Env := List (Nat × Value)
def Env.get : Env → Nat → Option Value
  | [], _ => none
  | (k, v) :: l, t => bif Nat.beq k t then some v else Env.get l t
structure Env.ok (n : Nat) (r : Env) (tmps : Array Value) : Prop where
  size : tmps.size = n
  at_ : ∀ t v, r.get t = some v → tmps[t]? = some v
def Env.ev (r : Env) : Operand → Option Value
  | .tmp t => r.get t
  | .const v => some v
  | .global g => some (.pointer (some ⟨g, 0, none⟩))
  | .func f => some (.func (.func f) #[] #[])
def Env.evs (r : Env) : List Operand → Option (List Value)
  | [] => some []
  | o :: l => match r.ev o, r.evs l with
    | some v, some vs => some (v :: vs)
    | _, _ => none

theorem Env.ok.ev {n : Nat} {r : Env} {tmps : Array Value} (h : r.ok n tmps) {o : Operand} {v : Value} (he : r.ev o = some v) (ds : List Deferred) : (Act.mk tmps ds).eval o = v := by
  cases o with
  | tmp t =>
    have := h.at_ t v he
    simp [Act.eval, Array.getD_eq_getD_getElem?, this]
  | const x => simpa [Env.ev, Act.eval] using he
  | global g => simpa [Env.ev, Act.eval] using he
  | func f => simpa [Env.ev, Act.eval] using he
theorem Env.ok.evs {n : Nat} {r : Env} {tmps : Array Value} (h : r.ok n tmps) (ds : List Deferred) : ∀ {l : List Operand} {vs : List Value}, r.evs l = some vs → l.map (Act.mk tmps ds).eval = vs
  | [], vs, he => by simpa [Env.evs] using he
  | o :: l, vs, he => by
    simp only [Env.evs] at he
    cases h1 : r.ev o with
    | none => simp [h1] at he
    | some v =>
      cases h2 : Env.evs r l with
      | none => simp [h1, h2] at he
      | some ws =>
        simp [h1, h2] at he
        subst he
        simp [h.ev h1, h.evs ds h2]
theorem Env.ok.put {n : Nat} {r : Env} {tmps : Array Value} (h : r.ok n tmps) {d : Nat} (hd : d < n) (v : Value) : Env.ok n ((d, v) :: r) (tmps.setIfInBounds d v) := by
  refine ⟨by simp [h.size], fun t u ht => ?_⟩
  simp only [Env.get] at ht
  cases hb : Nat.beq d t with
  | true =>
    have e := Nat.eq_of_beq_eq_true hb
    subst e
    simp at ht
    subst ht
    simp [h.size, hd]
  | false =>
    have e := Nat.ne_of_beq_eq_false hb
    simp [hb] at ht
    rw [Array.getElem?_setIfInBounds_ne e]
    exact h.at_ t u ht
/-- r' says no more than r -/
def Env.Sub (r' r : Env) : Prop := ∀ p ∈ r', r.get p.1 = some p.2
theorem Env.Sub.nil {r : Env} : Env.Sub [] r := fun _ h => by cases h
theorem Env.Sub.cons {r r' : Env} {t : Nat} {v : Value} (h : r.get t = some v) (h' : Env.Sub r' r) : Env.Sub ((t, v) :: r') r := by
  intro p hp
  cases hp with
  | head => exact h
  | tail _ hp => exact h' p hp
theorem Env.get_mem {r : Env} : ∀ {t : Nat} {v : Value}, r.get t = some v → (t, v) ∈ r := by
  induction r with
  | nil => intro t v h; simp [Env.get] at h
  | cons p r ih =>
    intro t v h
    obtain ⟨k, u⟩ := p
    simp only [Env.get] at h
    cases hb : Nat.beq k t with
    | true =>
      simp [hb] at h
      have e := Nat.eq_of_beq_eq_true hb
      subst e; subst h
      exact List.mem_cons_self
    | false =>
      simp [hb] at h
      exact List.mem_cons_of_mem _ (ih h)
theorem Env.Sub.ok {n : Nat} {r r' : Env} {tmps : Array Value} (hs : Env.Sub r' r) (h : r.ok n tmps) : r'.ok n tmps :=
  ⟨h.size, fun t v ht => h.at_ t v (hs _ (Env.get_mem ht))⟩

/-! ### the heap -/
abbrev Mem := Nat → Option Obj
/-- what is owned: a block, whole; a slice of one's own that may still grow (nil where a = none) -/
inductive Item where
  | blk (b : Nat) (o : Obj)
  | row (a : Option Addr) (cap : Nat) (T : TypeId) (sz : Nat) (es : List (List Value))
def Item.foot : Item → List Nat
  | .blk b _ => [b]
  | .row (some a) _ _ _ _ => [a.block]
  | .row none _ _ _ _ => []
def Item.holds (w : World) : Item → Prop
  | .blk b o => w.heap[b]? = some o
  | .row none cap _ _ es => es = [] ∧ cap = 0
  | .row (some a) cap T sz es => ∃ arr, ∃ fz : Nat × Nat, a = ⟨a.block, 0, none⟩ ∧ w.heap[a.block]? = some (.cells arr T fz) ∧ arr.size = cap * sz ∧ es.length ≤ cap ∧
      arr.toList.take (es.length * sz) = es.flatten ∧ (∀ e ∈ es, e.length = sz) ∧ (fz.1 = fz.2 ∨ arr.size ≤ fz.1) ∧ (es.length ≤ 9223372036854775807 → cap ≤ 9223372036854775807)
abbrev SHeap := List Item
def SHeap.foot (H : SHeap) : List Nat := H.flatMap Item.foot
structure Sat (w0 : World) (m : Mem) (H : SHeap) (w : World) : Prop where
  os : w.os = w0.os
  tape : w.tape = w0.tape
  output : w.output = w0.output
  size : w0.heap.size ≤ w.heap.size
  pers : ∀ b o, m b = some o → w.heap[b]? = some o
  own : ∀ i ∈ H, i.holds w
  sep : (SHeap.foot H).Nodup
  free : ∀ b ∈ SHeap.foot H, m b = none
/-- all that lies in a world -/
def memOf (w : World) : Mem := fun b => w.heap[b]?
theorem Sat.start (w : World) : Sat w (memOf w) [] w :=
  ⟨rfl, rfl, rfl, Nat.le_refl _, fun _ _ h => h, (fun _ h => by cases h), List.nodup_nil, (fun _ h => by cases h)⟩
theorem Sat.below {w w' : World} {H : SHeap} (h : Sat w (memOf w) H w') : Below w.heap.size w w' :=
  ⟨h.os, h.tape, h.output, h.size, fun k hk => by
    have := h.pers k (w.heap[k]) (by simp [memOf, hk])
    rw [this]; simp [hk]⟩
theorem Item.holds_of_same {i : Item} {w w' : World} (h : i.holds w) (hs : ∀ b ∈ i.foot, w'.heap[b]? = w.heap[b]?) : i.holds w' := by
  cases i with
  | blk b o => exact (hs b (by simp [Item.foot])).trans h
  | row a cap T sz es =>
    cases a with
    | none => exact h
    | some a =>
      obtain ⟨arr, fz, h1, h2, h3⟩ := h
      exact ⟨arr, fz, h1, (hs a.block (by simp [Item.foot])).trans h2, h3⟩
theorem Item.foot_lt {i : Item} {w : World} (h : i.holds w) : ∀ b ∈ i.foot, b < w.heap.size := by
  intro b hb
  cases i with
  | blk b' o =>
    simp [Item.foot] at hb
    subst hb
    exact (Array.getElem?_eq_some_iff.1 h).1
  | row a cap T sz es =>
    cases a with
    | none => simp [Item.foot] at hb
    | some a =>
      simp [Item.foot] at hb
      subst hb
      obtain ⟨arr, fz, _, h2, _⟩ := h
      exact (Array.getElem?_eq_some_iff.1 h2).1
theorem Sat.foot_lt {w0 : World} {m : Mem} {H : SHeap} {w : World} (h : Sat w0 m H w) : ∀ b ∈ SHeap.foot H, b < w.heap.size := by
  intro b hb
  obtain ⟨i, hi, hb'⟩ := List.mem_flatMap.1 hb
  exact Item.foot_lt (h.own i hi) b hb'
/-- only what is not owned has turned: what the rest may rely on -/
theorem Sat.keep {w0 : World} {m : Mem} {H : SHeap} {w w' : World} (h : Sat w0 m H w) (ho : w'.os = w.os) (ht : w'.tape = w.tape) (hu : w'.output = w.output)
    (hz : w.heap.size ≤ w'.heap.size) (hs : ∀ b, b < w.heap.size → w'.heap[b]? = w.heap[b]?) : Sat w0 m H w' :=
  ⟨ho.trans h.os, ht.trans h.tape, hu.trans h.output, Nat.le_trans h.size hz,
    fun b o hb => by have := h.pers b o hb; rw [hs b (Array.getElem?_eq_some_iff.1 this).1]; exact this,
    fun i hi => Item.holds_of_same (h.own i hi) (fun b hb => hs b (Item.foot_lt (h.own i hi) b hb)), h.sep, h.free⟩
theorem Sat.below_keep {w0 : World} {m : Mem} {H : SHeap} {w w' : World} (h : Sat w0 m H w) (hb : Below w.heap.size w w') : Sat w0 m H w' :=
  h.keep hb.os hb.tape hb.output hb.size hb.block
theorem Sat.drew {w0 : World} {m : Mem} {H : SHeap} {w : World} (h : Sat w0 m H w) : Sat w0 m H { w with drawn := w.drawn + 1 } :=
  h.keep rfl rfl rfl (Nat.le_refl _) (fun _ _ => rfl)
/-- a new block -/
theorem Sat.alloc {w0 : World} {m : Mem} {H : SHeap} {w : World} (h : Sat w0 m H w) (o : Obj) : Sat w0 m (.blk w.heap.size o :: H) (w.alloc o) := by
  have k : Sat w0 m H (w.alloc o) := h.keep rfl rfl rfl (by simp) (fun b hb => Below.heap_alloc w o b hb)
  refine ⟨k.os, k.tape, k.output, k.size, k.pers, ?_, ?_, ?_⟩
  · intro i hi
    cases hi with
    | head => exact World.alloc_heap_new w o
    | tail _ hi => exact k.own i hi
  · simp only [SHeap.foot, List.flatMap_cons, Item.foot, List.singleton_append, List.nodup_cons]
    exact ⟨fun hb => absurd (h.foot_lt _ hb) (Nat.lt_irrefl _), h.sep⟩
  · intro b hb
    simp only [SHeap.foot, List.flatMap_cons, Item.foot, List.singleton_append, List.mem_cons] at hb
    rcases hb with rfl | hb
    · cases hm : m w.heap.size with
      | none => rfl
      | some o' => exact absurd (Array.getElem?_eq_some_iff.1 (h.pers _ _ hm)).1 (Nat.lt_irrefl _)
    · exact h.free b hb
/-- permutation, and letting go -/
theorem Sat.perm {w0 : World} {m : Mem} {H H' : SHeap} {w : World} (h : Sat w0 m H w) (hp : List.Perm H H') : Sat w0 m H' w := by
  have hf : List.Perm (SHeap.foot H) (SHeap.foot H') := List.Perm.flatMap_right _ hp
  exact ⟨h.os, h.tape, h.output, h.size, h.pers, fun i hi => h.own i (hp.mem_iff.2 hi), (hf.nodup_iff).1 h.sep, fun b hb => h.free b (hf.mem_iff.2 hb)⟩
theorem Sat.drop {w0 : World} {m : Mem} {i : Item} {H : SHeap} {w : World} (h : Sat w0 m (i :: H) w) : Sat w0 m H w := by
  have hs := h.sep
  simp only [SHeap.foot, List.flatMap_cons, List.nodup_append] at hs
  exact ⟨h.os, h.tape, h.output, h.size, h.pers, fun j hj => h.own j (List.mem_cons_of_mem _ hj), hs.2.1,
    fun b hb => h.free b (by simp only [SHeap.foot, List.flatMap_cons, List.mem_append]; exact .inr hb)⟩
/-- an owned block is written: whatever the world has become, the rest lies as it lay -/
theorem Sat.turn {w0 : World} {m : Mem} {i j : Item} {H : SHeap} {w w' : World} (h : Sat w0 m (i :: H) w) (ho : w'.os = w.os) (ht : w'.tape = w.tape) (hu : w'.output = w.output)
    (hz : w.heap.size ≤ w'.heap.size) (hs : ∀ b, b < w.heap.size → b ∉ i.foot → w'.heap[b]? = w.heap[b]?) (hj : j.holds w')
    (hf : ∀ b ∈ j.foot, b ∈ i.foot ∨ w.heap.size ≤ b) (hn : j.foot.Nodup) : Sat w0 m (j :: H) w' := by
  have hsep := h.sep
  simp only [SHeap.foot, List.flatMap_cons, List.nodup_append] at hsep
  have hfoot : ∀ b ∈ SHeap.foot H, b ∉ i.foot := fun b hb hi => hsep.2.2 b hi b hb rfl
  have hd := h.drop
  refine ⟨ho.trans h.os, ht.trans h.tape, hu.trans h.output, Nat.le_trans h.size hz, ?_, ?_, ?_, ?_⟩
  · intro b o hb
    have := h.pers b o hb
    rw [hs b (Array.getElem?_eq_some_iff.1 this).1 ?_]
    · exact this
    · intro hi
      have := h.free b (by simp only [SHeap.foot, List.flatMap_cons, List.mem_append]; exact .inl hi)
      rw [hb] at this; cases this
  · intro x hx
    cases hx with
    | head => exact hj
    | tail _ hx =>
      refine Item.holds_of_same (hd.own x hx) (fun b hb => ?_)
      have hb' : b ∈ SHeap.foot H := List.mem_flatMap.2 ⟨x, hx, hb⟩
      exact hs b (hd.foot_lt b hb') (hfoot b hb')
  · simp only [SHeap.foot, List.flatMap_cons, List.nodup_append]
    refine ⟨hn, hsep.2.1, fun a ha b hb e => ?_⟩
    subst e
    rcases hf a ha with hi | hge
    · exact hfoot a hb hi
    · exact absurd (hd.foot_lt a hb) (by omega)
  · intro b hb
    simp only [SHeap.foot, List.flatMap_cons, List.mem_append] at hb
    rcases hb with hb | hb
    · rcases hf b hb with hi | hge
      · exact h.free b (by simp only [SHeap.foot, List.flatMap_cons, List.mem_append]; exact .inl hi)
      · cases hm : m b with
        | none => rfl
        | some o' => exact absurd (Array.getElem?_eq_some_iff.1 (h.pers _ _ hm)).1 (by omega)
    · exact hd.free b hb
/-- what was owned is let stand for good -/
def Mem.ins (m : Mem) (b : Nat) (o : Obj) : Mem := fun c => if c = b then some o else m c
def Mem.le (m m' : Mem) : Prop := ∀ b o, m b = some o → m' b = some o
theorem Mem.le.refl (m : Mem) : m.le m := fun _ _ h => h
theorem Mem.le.trans {a b c : Mem} (h : a.le b) (k : b.le c) : a.le c := fun x o hx => k x o (h x o hx)
theorem Sat.persist {w0 : World} {m : Mem} {b : Nat} {o : Obj} {H : SHeap} {w : World} (h : Sat w0 m (.blk b o :: H) w) : Sat w0 (m.ins b o) H w ∧ m.le (m.ins b o) := by
  have hd := h.drop
  have hsep := h.sep
  simp only [SHeap.foot, List.flatMap_cons, Item.foot, List.singleton_append, List.nodup_cons] at hsep
  have hfree := h.free b (by simp [SHeap.foot, Item.foot])
  refine ⟨⟨hd.os, hd.tape, hd.output, hd.size, ?_, hd.own, hd.sep, ?_⟩, ?_⟩
  · intro c o' hc
    simp only [Mem.ins] at hc
    split at hc
    · rename_i e; subst e; cases hc; exact h.own _ List.mem_cons_self
    · exact h.pers c o' hc
  · intro c hc
    simp only [Mem.ins]
    split
    · rename_i e; subst e; exact absurd hc hsep.1
    · exact hd.free c hc
  · intro c o' hc
    simp only [Mem.ins]
    split
    · rename_i e; subst e; rw [hfree] at hc; cases hc
    · exact hc
end Go.Eng
namespace Go.Eng
/-! a number that is a natural one -/
theorem natz (a : Nat) : (a : Int) = (a : Int) := rfl
theorem natz_add {x y : Int} {a b : Nat} (h : x = (a : Int)) (h' : y = (b : Int)) : x + y = ((a + b : Nat) : Int) := by omega
theorem natz_sub {x y : Int} {a b : Nat} (h : x = (a : Int)) (h' : y = (b : Int)) (hle : b ≤ a) : x - y = ((a - b : Nat) : Int) := by omega
theorem natz0 : (0 : Int) = ((0 : Nat) : Int) := rfl
theorem natz1 : (1 : Int) = ((1 : Nat) : Int) := rfl
theorem natz2 : (2 : Int) = ((2 : Nat) : Int) := rfl
theorem natz3 : (3 : Int) = ((3 : Nat) : Int) := rfl
theorem natz4 : (4 : Int) = ((4 : Nat) : Int) := rfl
theorem natz8 : (8 : Int) = ((8 : Nat) : Int) := rfl
end Go.Eng

/-
  A walk's engine, second part: what is said of code in a state of slots and heap, and the rules for control. No condition.
-/
set_option linter.all false
namespace Go.Eng
open Go Go.RowKit

/-- everything may be called, at whatever depth; in a round of loop l where ro = some l -/
def FW (ro : Option Nat) : Fence := { Fence.wide with round := ro }
theorem FW_fn (ro : Option Nat) (f : FuncId) : (FW ro).fn f := trivial
theorem FW_depth (ro : Option Nat) : (FW ro).depth.isSome = true → 1 ≤ 0 := fun h => by simp [FW, Fence.wide] at h
/-- a test, kept closed -/
@[irreducible] def dcd (p : Prop) [Decidable p] : Bool := decide p
theorem dcd_eq (p : Prop) [Decidable p] : dcd p = decide p := by unfold dcd; rfl
theorem dcd_true {p : Prop} [Decidable p] (h : p) : dcd p = true := by rw [dcd_eq]; exact decide_eq_true h
theorem dcd_false {p : Prop} [Decidable p] (h : ¬ p) : dcd p = false := by rw [dcd_eq]; exact decide_eq_false h
theorem dcd_iff {p : Prop} [Decidable p] : dcd p = true ↔ p := by rw [dcd_eq]; exact decide_eq_true_iff
def marks (ds : List Nat) : List Deferred := ds.map fun D => { target := .collected D, args := #[] }

section
variable (P : Program) (ro : Option Nat) (n : Nat) (w0 : World)
def WC (c : Code) (Q : Exit → Act → World → Prop) (r : Env) (ds : List Nat) (m : Mem) (H : SHeap) : Prop :=
  ∀ tmps w, r.ok n tmps → Sat w0 m H w → c.wpIn (FW ro) 0 P Q ⟨tmps, marks ds⟩ w
def WL (ops : Array Oper) (Q : Exit → Act → World → Prop) (l : List Oper) (r : Env) (ds : List Nat) (m : Mem) (H : SHeap) : Prop :=
  ∀ tmps w, r.ok n tmps → Sat w0 m H w → wpListIn (FW ro) 0 P ops Q l ⟨tmps, marks ds⟩ w
def WQ (Q : Exit → Act → World → Prop) (e : Exit) (r : Env) (ds : List Nat) (m : Mem) (H : SHeap) : Prop :=
  ∀ tmps w, r.ok n tmps → Sat w0 m H w → Q e ⟨tmps, marks ds⟩ w
/-- a call in such a state: it returns; what it hands back and leaves is said by Post -/
def Does (f : FuncId) (args : Array Value) (w0 : World) (m : Mem) (H : SHeap) (Post : Value → Mem → SHeap → Prop) : Prop :=
  ∀ w, Sat w0 m H w → CallsIn (FW none) 0 P f args w fun e w' => ∃ v m' H', e = .returned v ∧ Post v m' H' ∧ Sat w0 m' H' w'
end

section
variable {P : Program} {ro : Option Nat} {n : Nat} {w0 : World} {Q : Exit → Act → World → Prop} {r : Env} {ds : List Nat} {m : Mem} {H : SHeap}

theorem WC.seq {x y : Code} (h : WC P ro n w0 x (Exit.then (fun a w => y.wpIn (FW ro) 0 P Q a w) Q) r ds m H) : WC P ro n w0 (.seq x y) Q r ds m H :=
  fun tmps w ho hs => wpIn_seq (h tmps w ho hs)
theorem c_seq {x y : Code} (h : WC P ro n w0 x (Exit.then (fun a w => y.wpIn (FW ro) 0 P Q a w) Q) r ds m H) : WC P ro n w0 (.seq x y) Q r ds m H := WC.seq h
theorem WC.block {id : Nat} {c : Code} (h : WC P ro n w0 c (Exit.inBlock id Q) r ds m H) : WC P ro n w0 (.block id c) Q r ds m H :=
  fun tmps w ho hs => wpIn_block (h tmps w ho hs)
theorem c_block {id : Nat} {c : Code} (h : WC P ro n w0 c (Exit.inBlock id Q) r ds m H) : WC P ro n w0 (.block id c) Q r ds m H := WC.block h
theorem WC.ret (h : WQ n w0 Q .ret r ds m H) : WC P ro n w0 .ret Q r ds m H := fun tmps w ho hs => wpIn_ret (h tmps w ho hs)
theorem c_ret (h : WQ n w0 Q .ret r ds m H) : WC P ro n w0 .ret Q r ds m H := WC.ret h
theorem WC.skip (h : WQ n w0 Q .normal r ds m H) : WC P ro n w0 .skip Q r ds m H := fun tmps w ho hs => wpIn_skip (h tmps w ho hs)
theorem c_skip (h : WQ n w0 Q .normal r ds m H) : WC P ro n w0 .skip Q r ds m H := WC.skip h
theorem WC.exit {id : Nat} (h : WQ n w0 Q (.exit id) r ds m H) : WC P ro n w0 (.exit id) Q r ds m H := fun tmps w ho hs => wpIn_exit (h tmps w ho hs)
theorem c_exit {id : Nat} (h : WQ n w0 Q (.exit id) r ds m H) : WC P ro n w0 (.exit id) Q r ds m H := WC.exit h
theorem WC.cond_t {c : Operand} {x y : Code} (hc : r.ev c = some (.bool true)) (h : WC P ro n w0 x Q r ds m H) : WC P ro n w0 (.cond c x y) Q r ds m H :=
  fun tmps w ho hs => wpIn_cond_true (ho.ev hc _) (h tmps w ho hs)
theorem c_cond_t {c : Operand} {x y : Code} (h : WC P ro n w0 x Q r ds m H) (hc : r.ev c = some (.bool true) := by exact rfl) : WC P ro n w0 (.cond c x y) Q r ds m H := WC.cond_t hc h
theorem WC.cond_f {c : Operand} {x y : Code} (hc : r.ev c = some (.bool false)) (h : WC P ro n w0 y Q r ds m H) : WC P ro n w0 (.cond c x y) Q r ds m H :=
  fun tmps w ho hs => wpIn_cond_false (ho.ev hc _) (h tmps w ho hs)
theorem c_cond_f {c : Operand} {x y : Code} (h : WC P ro n w0 y Q r ds m H) (hc : r.ev c = some (.bool false) := by exact rfl) : WC P ro n w0 (.cond c x y) Q r ds m H := WC.cond_f hc h
theorem WC.cond {c : Operand} {x y : Code} {b : Bool} (hc : r.ev c = some (.bool b)) (ht : b = true → WC P ro n w0 x Q r ds m H) (hf : b = false → WC P ro n w0 y Q r ds m H) :
    WC P ro n w0 (.cond c x y) Q r ds m H :=
  fun tmps w ho hs => wpIn_cond_split (ho.ev hc _) (fun e => ht e tmps w ho hs) (fun e => hf e tmps w ho hs)
theorem WC.region {id : Nat} {l : List Oper} (h : WL P ro n w0 l.toArray Q l r ds m H) : WC P ro n w0 (.region id l.toArray false) Q r ds m H :=
  fun tmps w ho hs => wpIn_region_lit (h tmps w ho hs)
theorem c_region {id : Nat} {l : List Oper} (h : WL P ro n w0 l.toArray Q l r ds m H) : WC P ro n w0 (.region id l.toArray false) Q r ds m H := WC.region h
theorem WC.weak {c : Code} {r' : Env} {H' : SHeap} (hr : Env.Sub r' r) (hh : ∀ w, Sat w0 m H w → Sat w0 m H' w) (h : WC P ro n w0 c Q r' ds m H') : WC P ro n w0 c Q r ds m H :=
  fun tmps w ho hs => h tmps w (hr.ok ho) (hh w hs)
theorem WL.weak {ops : Array Oper} {l : List Oper} {r' : Env} {H' : SHeap} (hr : Env.Sub r' r) (hh : ∀ w, Sat w0 m H w → Sat w0 m H' w) (h : WL P ro n w0 ops Q l r' ds m H') : WL P ro n w0 ops Q l r ds m H :=
  fun tmps w ho hs => h tmps w (hr.ok ho) (hh w hs)
theorem WC.pull {c : Code} {i : Item} {H1 : SHeap} (hp : List.Perm H (i :: H1)) (h : WC P ro n w0 c Q r ds m (i :: H1)) : WC P ro n w0 c Q r ds m H :=
  fun tmps w ho hs => h tmps w ho (hs.perm hp)
theorem WC.of_post {c : Code} {Q' : Exit → Act → World → Prop} (h : WC P ro n w0 c Q r ds m H) (hq : ∀ e a w, Q e a w → Q' e a w) : WC P ro n w0 c Q' r ds m H :=
  fun tmps w ho hs => wpIn_mono (h tmps w ho hs) hq

theorem WL.nil {ops : Array Oper} (h : WQ n w0 Q .normal r ds m H) : WL P ro n w0 ops Q [] r ds m H := fun tmps w ho hs => h tmps w ho hs

theorem w_nil {ops : Array Oper} (h : WQ n w0 Q .normal r ds m H) : WL P ro n w0 ops Q [] r ds m H := WL.nil h
theorem WQ.norm {y : Code} (h : WC P ro n w0 y Q r ds m H) : WQ n w0 (Exit.then (fun a w => y.wpIn (FW ro) 0 P Q a w) Q) .normal r ds m H := h
theorem q_norm {y : Code} (h : WC P ro n w0 y Q r ds m H) : WQ n w0 (Exit.then (fun a w => y.wpIn (FW ro) 0 P Q a w) Q) .normal r ds m H := WQ.norm h
theorem WQ.thenRet {K : Act → World → Prop} (h : WQ n w0 Q .ret r ds m H) : WQ n w0 (Exit.then K Q) .ret r ds m H := h
theorem q_thenRet {K : Act → World → Prop} (h : WQ n w0 Q .ret r ds m H) : WQ n w0 (Exit.then K Q) .ret r ds m H := WQ.thenRet h
theorem WQ.thenExit {K : Act → World → Prop} {id : Nat} (h : WQ n w0 Q (.exit id) r ds m H) : WQ n w0 (Exit.then K Q) (.exit id) r ds m H := h
theorem q_thenExit {K : Act → World → Prop} {id : Nat} (h : WQ n w0 Q (.exit id) r ds m H) : WQ n w0 (Exit.then K Q) (.exit id) r ds m H := WQ.thenExit h
theorem WQ.blockNorm {id : Nat} (h : WQ n w0 Q .normal r ds m H) : WQ n w0 (Exit.inBlock id Q) .normal r ds m H := h
theorem q_blockNorm {id : Nat} (h : WQ n w0 Q .normal r ds m H) : WQ n w0 (Exit.inBlock id Q) .normal r ds m H := WQ.blockNorm h
theorem WQ.blockRet {id : Nat} (h : WQ n w0 Q .ret r ds m H) : WQ n w0 (Exit.inBlock id Q) .ret r ds m H := h
theorem q_blockRet {id : Nat} (h : WQ n w0 Q .ret r ds m H) : WQ n w0 (Exit.inBlock id Q) .ret r ds m H := WQ.blockRet h
theorem WQ.blockSame {id : Nat} (h : WQ n w0 Q .normal r ds m H) : WQ n w0 (Exit.inBlock id Q) (.exit id) r ds m H := by
  intro tmps w ho hs
  simp only [Exit.inBlock, if_true]
  exact h tmps w ho hs
theorem q_blockSame {id : Nat} (h : WQ n w0 Q .normal r ds m H) : WQ n w0 (Exit.inBlock id Q) (.exit id) r ds m H := WQ.blockSame h
theorem WQ.blockOther {id id' : Nat} (hne : Nat.beq id' id = false) (h : WQ n w0 Q (.exit id') r ds m H) : WQ n w0 (Exit.inBlock id Q) (.exit id') r ds m H := by
  intro tmps w ho hs
  simp only [Exit.inBlock, if_neg (Nat.ne_of_beq_eq_false hne)]
  exact h tmps w ho hs
theorem q_blockOther {id id' : Nat} (h : WQ n w0 Q (.exit id') r ds m H) (hne : Nat.beq id' id = false := by exact rfl) : WQ n w0 (Exit.inBlock id Q) (.exit id') r ds m H := WQ.blockOther hne h
theorem WQ.weak {e : Exit} {r' : Env} {H' : SHeap} (hr : Env.Sub r' r) (hh : ∀ w, Sat w0 m H w → Sat w0 m H' w) (h : WQ n w0 Q e r' ds m H') : WQ n w0 Q e r ds m H :=
  fun tmps w ho hs => h tmps w (hr.ok ho) (hh w hs)

/-! ### a test that is settled, or split -/
theorem Env.ok.setb {n : Nat} {r : Env} {tmps : Array Value} (h : r.ok n tmps) {d : Nat} {b c : Bool} (hd : r.get d = some (.bool b)) (hb : b = c) : Env.ok n ((d, .bool c) :: r) tmps := by
  refine ⟨h.size, fun t v ht => ?_⟩
  simp only [Env.get] at ht
  cases hq : Nat.beq d t with
  | true =>
    have e := Nat.eq_of_beq_eq_true hq
    subst e; subst hb
    simp at ht
    subst ht
    exact h.at_ _ _ hd
  | false =>
    simp [hq] at ht
    exact h.at_ t v ht
theorem WC.known {c : Code} (d : Nat) {b : Bool} (k : Bool) (hd : r.get d = some (.bool b)) (hb : b = k) (h : WC P ro n w0 c Q ((d, .bool k) :: r) ds m H) : WC P ro n w0 c Q r ds m H :=
  fun tmps w ho hs => h tmps w (ho.setb hd hb) hs
theorem WL.known {ops : Array Oper} {l : List Oper} (d : Nat) {b : Bool} (k : Bool) (hd : r.get d = some (.bool b)) (hb : b = k) (h : WL P ro n w0 ops Q l ((d, .bool k) :: r) ds m H) : WL P ro n w0 ops Q l r ds m H :=
  fun tmps w ho hs => h tmps w (ho.setb hd hb) hs
theorem WL.split {ops : Array Oper} {l : List Oper} (d : Nat) {b : Bool} (hd : r.get d = some (.bool b)) (ht : b = true → WL P ro n w0 ops Q l ((d, .bool true) :: r) ds m H)
    (hf : b = false → WL P ro n w0 ops Q l ((d, .bool false) :: r) ds m H) : WL P ro n w0 ops Q l r ds m H := by
  cases hb : b with
  | true => exact .known d true hd hb (ht hb)
  | false => exact .known d false hd hb (hf hb)
/-- a slot's value under another name -/
theorem WL.rename {ops : Array Oper} {l : List Oper} (d : Nat) {v u : Value} (hd : r.get d = some v) (hv : v = u) (h : WL P ro n w0 ops Q l ((d, u) :: r) ds m H) : WL P ro n w0 ops Q l r ds m H := by
  intro tmps w ho hs
  refine h tmps w ⟨ho.size, fun t x ht => ?_⟩ hs
  simp only [Env.get] at ht
  cases hq : Nat.beq d t with
  | true =>
    have e := Nat.eq_of_beq_eq_true hq
    subst e; subst hv
    simp at ht
    subst ht
    exact ho.at_ _ _ hd
  | false =>
    simp [hq] at ht
    exact ho.at_ t x ht
theorem WC.rename {c : Code} (d : Nat) {v u : Value} (hd : r.get d = some v) (hv : v = u) (h : WC P ro n w0 c Q ((d, u) :: r) ds m H) : WC P ro n w0 c Q r ds m H := by
  subst hv
  intro tmps w ho hs
  refine h tmps w ⟨ho.size, fun t x ht => ?_⟩ hs
  simp only [Env.get] at ht
  cases hq : Nat.beq d t with
  | true =>
    have e := Nat.eq_of_beq_eq_true hq
    subst e
    simp at ht
    subst ht
    exact ho.at_ _ _ hd
  | false =>
    simp [hq] at ht
    exact ho.at_ t x ht

/-! ### guards -/
theorem yielded_of {ops : Array Oper} {j dj : Nat} {tmps : Array Value} (hj : (ops[j]?).bind (·.dst) = some dj) {b : Bool} (hv : tmps[dj]? = some (.bool b)) : yielded ops tmps j = some b := by
  simp [yielded, hj, hv]
theorem WL.on {ops : Array Oper} {l : List Oper} {dst : Option Tmp} {op : Op} {ty : TypeId} {pos : String} {after : Array Edge} {j dj : Nat} {want : Bool}
    (hj : (ops[j]?).bind (·.dst) = some dj) (hv : r.get dj = some (.bool want)) (h : WL P ro n w0 ops Q (⟨dst, op, ty, pos, after, none⟩ :: l) r ds m H) :
    WL P ro n w0 ops Q (⟨dst, op, ty, pos, after, some (j, want)⟩ :: l) r ds m H := by
  intro tmps w ho hs
  have hk := h tmps w ho hs
  unfold wpListIn at hk ⊢
  simp only [Region.wanted, if_true] at hk
  simp only [Region.wanted, yielded_of hj (ho.at_ _ _ hv), BEq.rfl, if_true]
  exact hk
theorem w_on {ops : Array Oper} {l : List Oper} {dst : Option Tmp} {op : Op} {ty : TypeId} {pos : String} {after : Array Edge} {j dj : Nat} {want : Bool} (h : WL P ro n w0 ops Q (⟨dst, op, ty, pos, after, none⟩ :: l) r ds m H) (hj : (ops[j]?).bind (·.dst) = some dj := by exact rfl) (hv : r.get dj = some (.bool want) := by exact rfl) : WL P ro n w0 ops Q (⟨dst, op, ty, pos, after, some (j, want)⟩ :: l) r ds m H := WL.on hj hv h
theorem WL.off {ops : Array Oper} {l : List Oper} {dst : Nat} {op : Op} {ty : TypeId} {pos : String} {after : Array Edge} {j dj : Nat} {want b : Bool}
    (hj : (ops[j]?).bind (·.dst) = some dj) (hv : r.get dj = some (.bool b)) (hb : b = !want) (hd : Nat.blt dst n = true) (h : WL P ro n w0 ops Q l ((dst, undef) :: r) ds m H) :
    WL P ro n w0 ops Q (⟨some dst, op, ty, pos, after, some (j, want)⟩ :: l) r ds m H := by
  subst hb
  intro tmps w ho hs
  unfold wpListIn
  have hw : (some (!want) == some want) = false := by cases want <;> rfl
  simp only [Region.wanted, yielded_of hj (ho.at_ _ _ hv), hw]
  exact ⟨fun f _ => FW_fn ro f, h _ w (ho.put (by simpa [Nat.blt_eq] using hd) undef) hs⟩
theorem w_off {ops : Array Oper} {l : List Oper} {dst : Nat} {op : Op} {ty : TypeId} {pos : String} {after : Array Edge} {j dj : Nat} {want b : Bool} (h : WL P ro n w0 ops Q l ((dst, undef) :: r) ds m H) (hj : (ops[j]?).bind (·.dst) = some dj := by exact rfl) (hv : r.get dj = some (.bool b) := by exact rfl) (hb : b = !want := by exact rfl) (hd : Nat.blt dst n = true := by exact rfl) : WL P ro n w0 ops Q (⟨some dst, op, ty, pos, after, some (j, want)⟩ :: l) r ds m H := WL.off hj hv hb hd h
theorem WL.off' {ops : Array Oper} {l : List Oper} {op : Op} {ty : TypeId} {pos : String} {after : Array Edge} {j dj : Nat} {want b : Bool}
    (hj : (ops[j]?).bind (·.dst) = some dj) (hv : r.get dj = some (.bool b)) (hb : b = !want) (h : WL P ro n w0 ops Q l r ds m H) :
    WL P ro n w0 ops Q (⟨none, op, ty, pos, after, some (j, want)⟩ :: l) r ds m H := by
  subst hb
  intro tmps w ho hs
  unfold wpListIn
  have hw : (some (!want) == some want) = false := by cases want <;> rfl
  simp only [Region.wanted, yielded_of hj (ho.at_ _ _ hv), hw]
  exact ⟨fun f _ => FW_fn ro f, h _ w ho hs⟩
theorem w_off2 {ops : Array Oper} {l : List Oper} {op : Op} {ty : TypeId} {pos : String} {after : Array Edge} {j dj : Nat} {want b : Bool} (h : WL P ro n w0 ops Q l r ds m H) (hj : (ops[j]?).bind (·.dst) = some dj := by exact rfl) (hv : r.get dj = some (.bool b) := by exact rfl) (hb : b = !want := by exact rfl) : WL P ro n w0 ops Q (⟨none, op, ty, pos, after, some (j, want)⟩ :: l) r ds m H := WL.off' hj hv hb h
/-- guarded by an operation that was itself passed over -/
theorem WL.offU {ops : Array Oper} {l : List Oper} {dst : Nat} {op : Op} {ty : TypeId} {pos : String} {after : Array Edge} {j dj : Nat} {want : Bool}
    (hj : (ops[j]?).bind (·.dst) = some dj) (hv : r.get dj = some undef) (hd : Nat.blt dst n = true) (h : WL P ro n w0 ops Q l ((dst, undef) :: r) ds m H) :
    WL P ro n w0 ops Q (⟨some dst, op, ty, pos, after, some (j, want)⟩ :: l) r ds m H := by
  intro tmps w ho hs
  unfold wpListIn
  have hy : yielded ops tmps j = none := by simp [yielded, hj, ho.at_ _ _ hv, undef]
  have hw : ((none : Option Bool) == some want) = false := rfl
  simp only [Region.wanted, hy, hw]
  exact ⟨fun f _ => FW_fn ro f, h _ w (ho.put (by simpa [Nat.blt_eq] using hd) undef) hs⟩

theorem w_offU {ops : Array Oper} {l : List Oper} {dst : Nat} {op : Op} {ty : TypeId} {pos : String} {after : Array Edge} {j dj : Nat} {want : Bool} (h : WL P ro n w0 ops Q l ((dst, undef) :: r) ds m H) (hj : (ops[j]?).bind (·.dst) = some dj := by exact rfl) (hv : r.get dj = some undef := by exact rfl) (hd : Nat.blt dst n = true := by exact rfl) : WL P ro n w0 ops Q (⟨some dst, op, ty, pos, after, some (j, want)⟩ :: l) r ds m H := WL.offU hj hv hd h
/-! ### one operation -/
theorem semAt_exec (ro : Option Nat) (ρ : Operand → Value) (o : Oper) (h : ∀ c, o.op ≠ .defer c) : Oper.semAt ro ρ o = execOp ρ o := by
  cases ro with
  | none => exact Oper.semAt_none ρ o
  | some l => exact Oper.semAt_some l ρ o h
/-- an operation that yields a value -/
theorem WL.gen {ops : Array Oper} {l : List Oper} {d : Nat} {op : Op} {ty : TypeId} {pos : String} {after : Array Edge} (K : Value → Mem → SHeap → Prop)
    (hd : Nat.blt d n = true) (hnd : ∀ c, op ≠ .defer c)
    (hrun : ∀ tmps w, r.ok n tmps → Sat w0 m H w → ∃ v m' H' w', (execOp (Act.mk tmps (marks ds)).eval ⟨some d, op, ty, pos, after, none⟩).run P w = .ok (.value v) w' ∧ Sat w0 m' H' w' ∧ K v m' H')
    (h : ∀ v m' H', K v m' H' → WL P ro n w0 ops Q l ((d, v) :: r) ds m' H') : WL P ro n w0 ops Q (⟨some d, op, ty, pos, after, none⟩ :: l) r ds m H := by
  intro tmps w ho hs
  obtain ⟨v, m', H', w', hr, hs', hK⟩ := hrun tmps w ho hs
  unfold wpListIn
  simp only [Region.wanted, if_true]
  refine ⟨fun f _ => FW_fn ro f, ?_⟩
  rw [semAt_exec (FW ro).round _ _ hnd, hr]
  exact h v m' H' hK _ w' (ho.put (by simpa [Nat.blt_eq] using hd) v) hs'
/-- an operation whose value is known, over a heap that it leaves alone -/
theorem WL.val {ops : Array Oper} {l : List Oper} {d : Nat} {op : Op} {ty : TypeId} {pos : String} {after : Array Edge} {v : Value}
    (hd : Nat.blt d n = true) (hnd : ∀ c, op ≠ .defer c)
    (hrun : ∀ tmps w, r.ok n tmps → Sat w0 m H w → (execOp (Act.mk tmps (marks ds)).eval ⟨some d, op, ty, pos, after, none⟩).run P w = .ok (.value v) w)
    (h : WL P ro n w0 ops Q l ((d, v) :: r) ds m H) : WL P ro n w0 ops Q (⟨some d, op, ty, pos, after, none⟩ :: l) r ds m H :=
  .gen (fun v' m' H' => v' = v ∧ m' = m ∧ H' = H) hd hnd (fun tmps w ho hs => ⟨v, m, H, w, hrun tmps w ho hs, hs, rfl, rfl, rfl⟩) (by rintro _ _ _ ⟨rfl, rfl, rfl⟩; exact h)
/-- an operation that is done for what it does -/
theorem WL.act {ops : Array Oper} {l : List Oper} {dst : Option Nat} {op : Op} {ty : TypeId} {pos : String} {after : Array Edge} (K : Mem → SHeap → Prop)
    (hdst : dst = none) (hnd : ∀ c, op ≠ .defer c)
    (hrun : ∀ tmps w, r.ok n tmps → Sat w0 m H w → ∃ m' H' w', (execOp (Act.mk tmps (marks ds)).eval ⟨dst, op, ty, pos, after, none⟩).run P w = .ok .skip w' ∧ Sat w0 m' H' w' ∧ K m' H')
    (h : ∀ m' H', K m' H' → WL P ro n w0 ops Q l r ds m' H') : WL P ro n w0 ops Q (⟨dst, op, ty, pos, after, none⟩ :: l) r ds m H := by
  subst hdst
  intro tmps w ho hs
  obtain ⟨m', H', w', hr, hs', hK⟩ := hrun tmps w ho hs
  unfold wpListIn
  simp only [Region.wanted, if_true]
  refine ⟨fun f _ => FW_fn ro f, ?_⟩
  rw [semAt_exec (FW ro).round _ _ hnd, hr]
  exact h m' H' hK _ w' ho hs'
/-- a call -/
theorem WL.enter {ops : Array Oper} {l : List Oper} {dst : Option Nat} {op : Op} {ty : TypeId} {pos : String} {after : Array Edge} {f : FuncId} {args : Array Value} {Post : Value → Mem → SHeap → Prop}
    (hd : ∀ d, dst = some d → d < n) (hnd : ∀ c, op ≠ .defer c)
    (hrun : ∀ tmps w, r.ok n tmps → Sat w0 m H w → (execOp (Act.mk tmps (marks ds)).eval ⟨dst, op, ty, pos, after, none⟩).run P w = .ok (.enter f args) w)
    (hs : Does P f args w0 m H Post)
    (h : ∀ v m' H', Post v m' H' → WL P ro n w0 ops Q l ((dst.map fun d => (d, v)).toList ++ r) ds m' H') : WL P ro n w0 ops Q (⟨dst, op, ty, pos, after, none⟩ :: l) r ds m H := by
  intro tmps w ho hsat
  unfold wpListIn
  simp only [Region.wanted, if_true]
  refine ⟨fun f _ => FW_fn ro f, ?_⟩
  rw [semAt_exec (FW ro).round _ _ hnd, hrun tmps w ho hsat]
  refine ⟨FW_depth ro, ?_⟩
  have hc : CallsIn (FW ro) (0 - 1) P f args w _ := hs w hsat
  refine hc.mono ?_
  rintro e w' ⟨v, m', H', rfl, hP, hs'⟩
  cases dst with
  | none => exact h v m' H' hP tmps w' ho hs'
  | some d => exact h v m' H' hP _ w' (ho.put (hd d rfl) v) hs'

/-! ### a loop -/
theorem exists_least (p : Nat → Prop) (h : ∃ k, p k) : ∃ k, p k ∧ ∀ j, p j → k ≤ j := by
  obtain ⟨k, hk⟩ := h
  induction k using Nat.strongRecOn with
  | _ k ih =>
    by_cases hx : ∃ j, j < k ∧ p j
    · obtain ⟨j, hj, hp⟩ := hx
      exact ih j hj hp
    · refine ⟨k, hk, fun j hj => ?_⟩
      rcases Nat.lt_or_ge j k with hlt | hge
      · exact absurd ⟨j, hlt, hj⟩ hx
      · exact hge
open Classical in
noncomputable def least (p : Nat → Prop) : Nat := if h : ∃ k, p k then Classical.choose (exists_least p h) else 0
theorem least_of {p : Nat → Prop} {k : Nat} (h : p k) : p (least p) ∧ least p ≤ k := by
  have hx : ∃ k, p k := ⟨k, h⟩
  simp only [least, dif_pos hx]
  have := Classical.choose_spec (exists_least p hx)
  exact ⟨this.1, this.2 k h⟩
/-- what the end of a round owes -/
def QLoop (n : Nat) (w0 : World) (I : Nat → Env → List Nat → Mem → SHeap → Prop) (j : Nat) (Q : Exit → Act → World → Prop) : Exit → Act → World → Prop :=
  Exit.then (fun a w => ∃ j', j' < j ∧ ∃ r ds m H, I j' r ds m H ∧ r.ok n a.tmps ∧ a.defers = marks ds ∧ Sat w0 m H w) Q
theorem WC.loop {c : Code} (I : Nat → Env → List Nat → Mem → SHeap → Prop) (j : Nat) (h0 : I j r ds m H)
    (round : ∀ j r ds m H, I j r ds m H → WC P ro n w0 c (QLoop n w0 I j Q) r ds m H) : WC P ro n w0 (.loop c) Q r ds m H := by
  intro tmps w ho hs
  let J : Nat → Act → World → Prop := fun j a w => ∃ r ds m H, I j r ds m H ∧ r.ok n a.tmps ∧ a.defers = marks ds ∧ Sat w0 m H w
  refine wpIn_loop (fun a w => ∃ j, J j a w) (fun a w => least fun j => J j a w) ⟨j, r, ds, m, H, h0, ho, rfl, hs⟩ ?_
  rintro a w ⟨j1, hj1⟩
  obtain ⟨hl, _⟩ := least_of (p := fun j => J j a w) hj1
  obtain ⟨r', ds', m', H', hI, hok, hd, hsat⟩ := hl
  have := round _ r' ds' m' H' hI a.tmps w hok hsat
  obtain ⟨tm, df⟩ := a
  simp only at hd
  subst hd
  refine wpIn_mono this ?_
  intro e a2 w2 hq
  cases e with
  | normal =>
    obtain ⟨j2, hlt, hJ⟩ := hq
    exact ⟨⟨j2, hJ⟩, Nat.lt_of_le_of_lt (least_of (p := fun j => J j a2 w2) hJ).2 hlt⟩
  | _ => exact hq
theorem WQ.next {I : Nat → Env → List Nat → Mem → SHeap → Prop} {j : Nat} {r' : Env} {H' : SHeap} (j' : Nat) (hI : I j' r' ds m H') (hlt : j' < j) (hr : Env.Sub r' r) (hh : ∀ w, Sat w0 m H w → Sat w0 m H' w) :
    WQ n w0 (QLoop n w0 I j Q) .normal r ds m H :=
  fun _ w ho hs => ⟨j', hlt, r', ds, m, H', hI, hr.ok ho, rfl, hh w hs⟩
theorem WQ.loopExit {I : Nat → Env → List Nat → Mem → SHeap → Prop} {j id : Nat} (h : WQ n w0 Q (.exit id) r ds m H) : WQ n w0 (QLoop n w0 I j Q) (.exit id) r ds m H := h
theorem q_loopExit {I : Nat → Env → List Nat → Mem → SHeap → Prop} {j id : Nat} (h : WQ n w0 Q (.exit id) r ds m H) : WQ n w0 (QLoop n w0 I j Q) (.exit id) r ds m H := WQ.loopExit h
theorem WQ.loopRet {I : Nat → Env → List Nat → Mem → SHeap → Prop} {j : Nat} (h : WQ n w0 Q .ret r ds m H) : WQ n w0 (QLoop n w0 I j Q) .ret r ds m H := h

theorem q_loopRet {I : Nat → Env → List Nat → Mem → SHeap → Prop} {j : Nat} (h : WQ n w0 Q .ret r ds m H) : WQ n w0 (QLoop n w0 I j Q) .ret r ds m H := WQ.loopRet h
/-! ### a function -/
/-- what a function's end owes -/
def QFun (P : Program) (fn : Func) (w0 : World) (Post : Value → Mem → SHeap → Prop) : Exit → Act → World → Prop :=
  bodyPostM (FW none) 0 P fn fun e w' => ∃ v m' H', e = .returned v ∧ Post v m' H' ∧ Sat w0 m' H' w'
def Env.args : Nat → List Value → Env
  | _, [] => []
  | k, v :: l => (k, v) :: Env.args (k + 1) l
theorem Env.args_get : ∀ (l : List Value) (k t : Nat) (v : Value), (Env.args k l).get t = some v → k ≤ t ∧ l[t - k]? = some v
  | [], k, t, v, h => by simp [Env.args, Env.get] at h
  | u :: l, k, t, v, h => by
    simp only [Env.args, Env.get] at h
    cases hb : Nat.beq k t with
    | true =>
      have e := Nat.eq_of_beq_eq_true hb
      subst e
      simp at h
      simp [h]
    | false =>
      have e := Nat.ne_of_beq_eq_false hb
      simp [hb] at h
      obtain ⟨h1, h2⟩ := Env.args_get l (k + 1) t v h
      refine ⟨by omega, ?_⟩
      rw [show t - k = (t - (k + 1)) + 1 by omega]
      simpa using h2
theorem Does.of_body {f : FuncId} {fn : Func} {c : Code} {args : List Value} {Post : Value → Mem → SHeap → Prop} (hf : P.funcs[f]? = some fn) (hb : fn.body = some c)
    (hn : fn.ntmps = n) (ha : Nat.ble args.length n = true) (h : WC P none n w0 c (QFun P fn w0 Post) (Env.args 0 args) [] m H) : Does P f args.toArray w0 m H Post := by
  intro w hs
  refine callsIn_of_wp_marks hf hb (FW_fn none f) ?_
  refine h _ w ⟨?_, ?_⟩ hs
  · have : args.length ≤ n := by simpa using ha
    simp [hn]; omega
  · intro t v ht
    obtain ⟨_, h2⟩ := Env.args_get args 0 t v ht
    simp only [Nat.sub_zero] at h2
    rw [Array.getElem?_append_left (by simpa using (List.getElem?_eq_some_iff.1 h2).1)]
    simpa using h2
theorem Does.mono {f : FuncId} {args : Array Value} {Post Post' : Value → Mem → SHeap → Prop} (h : Does P f args w0 m H Post) (hp : ∀ v m' H', Post v m' H' → Post' v m' H') : Does P f args w0 m H Post' :=
  fun w hs => (h w hs).mono fun _ _ ⟨v, m', H', he, hP, hs'⟩ => ⟨v, m', H', he, hp _ _ _ hP, hs'⟩
/-- the end of a function's body: no marks are left -/
theorem WQ.fin {fn : Func} {Post : Value → Mem → SHeap → Prop} (v : Value) (hres : ∀ tmps w, r.ok n tmps → Sat w0 m H w → (results fn tmps).run P w = .ok v w) (hp : Post v m H) :
    WQ n w0 (QFun P fn w0 Post) .ret r [] m H :=
  fun tmps w ho hs => ⟨v, hres tmps w ho hs, v, m, H, rfl, hp, hs⟩
theorem q_fin {fn : Func} {Post : Value → Mem → SHeap → Prop} {v : Value} (hp : Post v m H) (hres : ∀ tmps w, r.ok n tmps → Sat w0 m H w → (results fn tmps).run P w = .ok v w := by (first | (apply res_tmp; (· exact rfl); (· exact rfl)) | (apply res_cell; (· exact rfl); (· exact rfl); (· (first | (apply Loads.one; (· exact rfl); (· first | (apply Cell.blk; (· (repeat (first | exact List.Mem.head _ | apply List.Mem.tail))); (· exact rfl)) | (apply Cell.mem; (· assumption); (· exact rfl)))) | (apply Loads.whole; (· exact rfl); (· exact rfl); (· (repeat (first | exact List.Mem.head _ | apply List.Mem.tail))); (· exact rfl)) | (apply Loads.blk; (· exact rfl); (· exact rfl); (· (repeat (first | exact List.Mem.head _ | apply List.Mem.tail))); (· (repeat (first | exact Seg.nil | (apply Seg.cons; (· exact rfl)))))) | (apply Loads.row; (· (repeat (first | exact List.Mem.head _ | apply List.Mem.tail))); (first | (rotate_left; (· exact rfl); rotate_right; (· assumption)) | ((· assumption); (· exact rfl))); (· exact rfl); (· exact rfl); (· exact rfl)) | (apply Loads.row1; (· (repeat (first | exact List.Mem.head _ | apply List.Mem.tail))); (first | (rotate_left; (· exact rfl); rotate_right; (· assumption)) | ((· assumption); (· exact rfl))); (· exact rfl)) | (apply Loads.rowF; (· (repeat (first | exact List.Mem.head _ | apply List.Mem.tail))); (first | (rotate_left; (· exact rfl); rotate_right; (· assumption)) | ((· assumption); (· exact rfl))); (· exact rfl); (· exact rfl)) | (apply Loads.prow; (· assumption); (first | (rotate_left; (· exact rfl); rotate_right; (· assumption)) | ((· assumption); (· exact rfl))); (· exact rfl); (· exact rfl); (· exact rfl)) | (apply Loads.prow1; (· assumption); (first | (rotate_left; (· exact rfl); rotate_right; (· assumption)) | ((· assumption); (· exact rfl))); (· exact rfl)) | (apply Loads.prowF; (· assumption); (first | (rotate_left; (· exact rfl); rotate_right; (· assumption)) | ((· assumption); (· exact rfl))); (· exact rfl); (· exact rfl)) | (apply Loads.rrow; (· assumption); (first | (rotate_left; (· exact rfl); rotate_right; (· assumption)) | ((· assumption); (· exact rfl))); (· exact rfl); (· exact rfl); (· exact rfl)) | (apply Loads.rrow1; (· assumption); (first | (rotate_left; (· exact rfl); rotate_right; (· assumption)) | ((· assumption); (· exact rfl))); (· exact rfl)) | (apply Loads.rrowF; (· assumption); (first | (rotate_left; (· exact rfl); rotate_right; (· assumption)) | ((· assumption); (· exact rfl))); (· exact rfl); (· exact rfl)) | (apply Loads.rowS; (· (repeat (first | exact List.Mem.head _ | apply List.Mem.tail))); (first | (rotate_left; (· exact rfl); rotate_right; (· assumption)) | ((· assumption); (· exact rfl))); (· exact rfl); (· exact rfl); (· (repeat (first | exact Seg.nil | (apply Seg.cons; (· exact rfl))))))))) | (apply res_none; exact rfl) | (apply res_many; (· exact rfl); (· repeat (first | exact ResAll.nil | (apply ResAll.tmp; (· exact rfl)) | (apply ResAll.cell; (· exact rfl); (· (first | (apply Loads.one; (· exact rfl); (· first | (apply Cell.blk; (· (repeat (first | exact List.Mem.head _ | apply List.Mem.tail))); (· exact rfl)) | (apply Cell.mem; (· assumption); (· exact rfl)))) | (apply Loads.whole; (· exact rfl); (· exact rfl); (· (repeat (first | exact List.Mem.head _ | apply List.Mem.tail))); (· exact rfl)) | (apply Loads.blk; (· exact rfl); (· exact rfl); (· (repeat (first | exact List.Mem.head _ | apply List.Mem.tail))); (· (repeat (first | exact Seg.nil | (apply Seg.cons; (· exact rfl)))))) | (apply Loads.row; (· (repeat (first | exact List.Mem.head _ | apply List.Mem.tail))); (first | (rotate_left; (· exact rfl); rotate_right; (· assumption)) | ((· assumption); (· exact rfl))); (· exact rfl); (· exact rfl); (· exact rfl)) | (apply Loads.row1; (· (repeat (first | exact List.Mem.head _ | apply List.Mem.tail))); (first | (rotate_left; (· exact rfl); rotate_right; (· assumption)) | ((· assumption); (· exact rfl))); (· exact rfl)) | (apply Loads.rowF; (· (repeat (first | exact List.Mem.head _ | apply List.Mem.tail))); (first | (rotate_left; (· exact rfl); rotate_right; (· assumption)) | ((· assumption); (· exact rfl))); (· exact rfl); (· exact rfl)) | (apply Loads.prow; (· assumption); (first | (rotate_left; (· exact rfl); rotate_right; (· assumption)) | ((· assumption); (· exact rfl))); (· exact rfl); (· exact rfl); (· exact rfl)) | (apply Loads.prow1; (· assumption); (first | (rotate_left; (· exact rfl); rotate_right; (· assumption)) | ((· assumption); (· exact rfl))); (· exact rfl)) | (apply Loads.prowF; (· assumption); (first | (rotate_left; (· exact rfl); rotate_right; (· assumption)) | ((· assumption); (· exact rfl))); (· exact rfl); (· exact rfl)) | (apply Loads.rrow; (· assumption); (first | (rotate_left; (· exact rfl); rotate_right; (· assumption)) | ((· assumption); (· exact rfl))); (· exact rfl); (· exact rfl); (· exact rfl)) | (apply Loads.rrow1; (· assumption); (first | (rotate_left; (· exact rfl); rotate_right; (· assumption)) | ((· assumption); (· exact rfl))); (· exact rfl)) | (apply Loads.rrowF; (· assumption); (first | (rotate_left; (· exact rfl); rotate_right; (· assumption)) | ((· assumption); (· exact rfl))); (· exact rfl); (· exact rfl)) | (apply Loads.rowS; (· (repeat (first | exact List.Mem.head _ | apply List.Mem.tail))); (first | (rotate_left; (· exact rfl); rotate_right; (· assumption)) | ((· assumption); (· exact rfl))); (· exact rfl); (· exact rfl); (· (repeat (first | exact Seg.nil | (apply Seg.cons; (· exact rfl))))))))))); (· exact rfl)))) : WQ n w0 (QFun P fn w0 Post) .ret r [] m H := WQ.fin v hres hp
theorem WQ.finNorm {fn : Func} {Post : Value → Mem → SHeap → Prop} (v : Value) (hres : ∀ tmps w, r.ok n tmps → Sat w0 m H w → (results fn tmps).run P w = .ok v w) (hp : Post v m H) :
    WQ n w0 (QFun P fn w0 Post) .normal r [] m H :=
  fun tmps w ho hs => ⟨v, hres tmps w ho hs, v, m, H, rfl, hp, hs⟩
theorem q_finNorm {fn : Func} {Post : Value → Mem → SHeap → Prop} {v : Value} (hp : Post v m H) (hres : ∀ tmps w, r.ok n tmps → Sat w0 m H w → (results fn tmps).run P w = .ok v w := by (first | (apply res_tmp; (· exact rfl); (· exact rfl)) | (apply res_cell; (· exact rfl); (· exact rfl); (· (first | (apply Loads.one; (· exact rfl); (· first | (apply Cell.blk; (· (repeat (first | exact List.Mem.head _ | apply List.Mem.tail))); (· exact rfl)) | (apply Cell.mem; (· assumption); (· exact rfl)))) | (apply Loads.whole; (· exact rfl); (· exact rfl); (· (repeat (first | exact List.Mem.head _ | apply List.Mem.tail))); (· exact rfl)) | (apply Loads.blk; (· exact rfl); (· exact rfl); (· (repeat (first | exact List.Mem.head _ | apply List.Mem.tail))); (· (repeat (first | exact Seg.nil | (apply Seg.cons; (· exact rfl)))))) | (apply Loads.row; (· (repeat (first | exact List.Mem.head _ | apply List.Mem.tail))); (first | (rotate_left; (· exact rfl); rotate_right; (· assumption)) | ((· assumption); (· exact rfl))); (· exact rfl); (· exact rfl); (· exact rfl)) | (apply Loads.row1; (· (repeat (first | exact List.Mem.head _ | apply List.Mem.tail))); (first | (rotate_left; (· exact rfl); rotate_right; (· assumption)) | ((· assumption); (· exact rfl))); (· exact rfl)) | (apply Loads.rowF; (· (repeat (first | exact List.Mem.head _ | apply List.Mem.tail))); (first | (rotate_left; (· exact rfl); rotate_right; (· assumption)) | ((· assumption); (· exact rfl))); (· exact rfl); (· exact rfl)) | (apply Loads.prow; (· assumption); (first | (rotate_left; (· exact rfl); rotate_right; (· assumption)) | ((· assumption); (· exact rfl))); (· exact rfl); (· exact rfl); (· exact rfl)) | (apply Loads.prow1; (· assumption); (first | (rotate_left; (· exact rfl); rotate_right; (· assumption)) | ((· assumption); (· exact rfl))); (· exact rfl)) | (apply Loads.prowF; (· assumption); (first | (rotate_left; (· exact rfl); rotate_right; (· assumption)) | ((· assumption); (· exact rfl))); (· exact rfl); (· exact rfl)) | (apply Loads.rrow; (· assumption); (first | (rotate_left; (· exact rfl); rotate_right; (· assumption)) | ((· assumption); (· exact rfl))); (· exact rfl); (· exact rfl); (· exact rfl)) | (apply Loads.rrow1; (· assumption); (first | (rotate_left; (· exact rfl); rotate_right; (· assumption)) | ((· assumption); (· exact rfl))); (· exact rfl)) | (apply Loads.rrowF; (· assumption); (first | (rotate_left; (· exact rfl); rotate_right; (· assumption)) | ((· assumption); (· exact rfl))); (· exact rfl); (· exact rfl)) | (apply Loads.rowS; (· (repeat (first | exact List.Mem.head _ | apply List.Mem.tail))); (first | (rotate_left; (· exact rfl); rotate_right; (· assumption)) | ((· assumption); (· exact rfl))); (· exact rfl); (· exact rfl); (· (repeat (first | exact Seg.nil | (apply Seg.cons; (· exact rfl))))))))) | (apply res_none; exact rfl) | (apply res_many; (· exact rfl); (· repeat (first | exact ResAll.nil | (apply ResAll.tmp; (· exact rfl)) | (apply ResAll.cell; (· exact rfl); (· (first | (apply Loads.one; (· exact rfl); (· first | (apply Cell.blk; (· (repeat (first | exact List.Mem.head _ | apply List.Mem.tail))); (· exact rfl)) | (apply Cell.mem; (· assumption); (· exact rfl)))) | (apply Loads.whole; (· exact rfl); (· exact rfl); (· (repeat (first | exact List.Mem.head _ | apply List.Mem.tail))); (· exact rfl)) | (apply Loads.blk; (· exact rfl); (· exact rfl); (· (repeat (first | exact List.Mem.head _ | apply List.Mem.tail))); (· (repeat (first | exact Seg.nil | (apply Seg.cons; (· exact rfl)))))) | (apply Loads.row; (· (repeat (first | exact List.Mem.head _ | apply List.Mem.tail))); (first | (rotate_left; (· exact rfl); rotate_right; (· assumption)) | ((· assumption); (· exact rfl))); (· exact rfl); (· exact rfl); (· exact rfl)) | (apply Loads.row1; (· (repeat (first | exact List.Mem.head _ | apply List.Mem.tail))); (first | (rotate_left; (· exact rfl); rotate_right; (· assumption)) | ((· assumption); (· exact rfl))); (· exact rfl)) | (apply Loads.rowF; (· (repeat (first | exact List.Mem.head _ | apply List.Mem.tail))); (first | (rotate_left; (· exact rfl); rotate_right; (· assumption)) | ((· assumption); (· exact rfl))); (· exact rfl); (· exact rfl)) | (apply Loads.prow; (· assumption); (first | (rotate_left; (· exact rfl); rotate_right; (· assumption)) | ((· assumption); (· exact rfl))); (· exact rfl); (· exact rfl); (· exact rfl)) | (apply Loads.prow1; (· assumption); (first | (rotate_left; (· exact rfl); rotate_right; (· assumption)) | ((· assumption); (· exact rfl))); (· exact rfl)) | (apply Loads.prowF; (· assumption); (first | (rotate_left; (· exact rfl); rotate_right; (· assumption)) | ((· assumption); (· exact rfl))); (· exact rfl); (· exact rfl)) | (apply Loads.rrow; (· assumption); (first | (rotate_left; (· exact rfl); rotate_right; (· assumption)) | ((· assumption); (· exact rfl))); (· exact rfl); (· exact rfl); (· exact rfl)) | (apply Loads.rrow1; (· assumption); (first | (rotate_left; (· exact rfl); rotate_right; (· assumption)) | ((· assumption); (· exact rfl))); (· exact rfl)) | (apply Loads.rrowF; (· assumption); (first | (rotate_left; (· exact rfl); rotate_right; (· assumption)) | ((· assumption); (· exact rfl))); (· exact rfl); (· exact rfl)) | (apply Loads.rowS; (· (repeat (first | exact List.Mem.head _ | apply List.Mem.tail))); (first | (rotate_left; (· exact rfl); rotate_right; (· assumption)) | ((· assumption); (· exact rfl))); (· exact rfl); (· exact rfl); (· (repeat (first | exact Seg.nil | (apply Seg.cons; (· exact rfl))))))))))); (· exact rfl)))) : WQ n w0 (QFun P fn w0 Post) .normal r [] m H := WQ.finNorm v hres hp
theorem Sat.putObj {b : Nat} {o o' : Obj} {w : World} (h : Sat w0 m (.blk b o :: H) w) : Sat w0 m (.blk b o' :: H) (w.putObj b o') := by
  have hb : w.heap[b]? = some o := h.own _ List.mem_cons_self
  refine h.turn (j := .blk b o') rfl rfl rfl (by simp) (fun k _ hk => World.putObj_heap_other (by simpa [Item.foot] using hk)) (World.putObj_heap_same (Array.getElem?_eq_some_iff.1 hb).1) (fun x hx => .inl hx) (by simp [Item.foot])
theorem WQ.mark {fn : Func} {Post : Value → Mem → SHeap → Prop} {D : Nat} {H1 : SHeap} (hp : List.Perm H (.blk D (.deferred (some [])) :: H1)) (h : WQ n w0 (QFun P fn w0 Post) .ret r ds m H1) :
    WQ n w0 (QFun P fn w0 Post) .ret r (D :: ds) m H := by
  intro tmps w ho hs
  have hs1 := hs.perm hp
  have hD : w.heap[D]? = some (.deferred (some [])) := hs1.own _ List.mem_cons_self
  refine ⟨by simp, .inl ⟨D, w.putObj D (.deferred none), rfl, run_takeDeferred hD, ?_⟩⟩
  exact h tmps _ ho hs1.putObj.drop
theorem WQ.markNorm {fn : Func} {Post : Value → Mem → SHeap → Prop} {D : Nat} {H1 : SHeap} (hp : List.Perm H (.blk D (.deferred (some [])) :: H1)) (h : WQ n w0 (QFun P fn w0 Post) .normal r ds m H1) :
    WQ n w0 (QFun P fn w0 Post) .normal r (D :: ds) m H := by
  intro tmps w ho hs
  have hs1 := hs.perm hp
  have hD : w.heap[D]? = some (.deferred (some [])) := hs1.own _ List.mem_cons_self
  refine ⟨by simp, .inl ⟨D, w.putObj D (.deferred none), rfl, run_takeDeferred hD, ?_⟩⟩
  exact h tmps _ ho hs1.putObj.drop
end
end Go.Eng

/-
  A walk's engine, third part: the operations on numbers, texts and parts of values, each as a rule on what is known of the slots. No condition.
-/
set_option linter.all false
namespace Go.Eng
open Go Go.RowKit

@[reducible] def str (l : List UInt8) : Value := .string ⟨l.toArray⟩
@[reducible] def i64 (x : Int) : Value := .int .i64 x
/-- a text's byte as a number -/
def gb (l : List UInt8) (k : Nat) : Nat := (l.getD k 0).toNat
theorem gb_lt (l : List UInt8) (k : Nat) : gb l k < 256 := (l.getD k 0).toNat_lt

theorem ofNat_toArray (l : List UInt8) : (⟨l.toArray⟩ : ByteArray).size = l.length := by simp [ByteArray.size]
theorem bytes_toList (l : List UInt8) : (⟨l.toArray⟩ : ByteArray).toList = l := by
  simp [ByteArray.toList_eq]

/-! what a type is -/
def aggB (P : Program) (t : TypeId) : Option Bool := (P.underlying t).map fun d => match d with | .struct _ | .array _ _ => true | _ => false
/-- a small number, worked out -/
def lit : Nat → Option Nat
  | 0 => some 0
  | 1 => some 1
  | 2 => some 2
  | 3 => some 3
  | 4 => some 4
  | 5 => some 5
  | 6 => some 6
  | 7 => some 7
  | 8 => some 8
  | 9 => some 9
  | 10 => some 10
  | 11 => some 11
  | 12 => some 12
  | 13 => some 13
  | 14 => some 14
  | 15 => some 15
  | 16 => some 16
  | 17 => some 17
  | 18 => some 18
  | 19 => some 19
  | 20 => some 20
  | 21 => some 21
  | 22 => some 22
  | 23 => some 23
  | 24 => some 24
  | 25 => some 25
  | 26 => some 26
  | 27 => some 27
  | 28 => some 28
  | 29 => some 29
  | 30 => some 30
  | 31 => some 31
  | 32 => some 32
  | 33 => some 33
  | 34 => some 34
  | 35 => some 35
  | 36 => some 36
  | 37 => some 37
  | 38 => some 38
  | 39 => some 39
  | 40 => some 40
  | n => some n
theorem lit_eq (n : Nat) : lit n = some n := by unfold lit; split <;> rfl
def sizeB (P : Program) (t : TypeId) : Option Nat := (P.info? t).bind fun d => lit d.size
def bytesB (P : Program) (t : TypeId) : Option Nat := (P.info? t).bind fun d => lit d.bytes
def zeroB (P : Program) (t : TypeId) : Option Value := (P.info? t).bind (·.zero)
section
variable {P : Program} {t : TypeId}
theorem run_agg {b : Bool} (h : aggB P t = some b) (w : World) : (isAgg t).run P w = .ok b w := by
  unfold aggB at h
  cases hu : P.underlying t with
  | none => simp [hu] at h
  | some d =>
    simp [hu] at h
    subst h
    simp only [isAgg, Sem.run_bind, run_underlying hu, Result.andThen_ok]
    cases d <;> rfl
theorem run_size {s : Nat} (h : sizeB P t = some s) (w : World) : (sizeOf t).run P w = .ok s w := by
  unfold sizeB at h
  cases hu : P.info? t with
  | none => simp [hu] at h
  | some d =>
    simp [hu, lit_eq] at h
    subst h
    simp [sizeOf, typeInfo, Sem.run_bind, hu, Result.andThen, pure]
theorem run_info {s : Nat} (h : bytesB P t = some s) (w : World) : ∃ i, P.info? t = some i ∧ i.bytes = s ∧ (typeInfo t).run P w = .ok i w := by
  unfold bytesB at h
  cases hu : P.info? t with
  | none => simp [hu] at h
  | some d =>
    simp [hu, lit_eq] at h
    exact ⟨d, rfl, h, by simp [typeInfo, Sem.run_bind, hu, Result.andThen, pure]⟩
theorem run_zero {z : Value} (h : zeroB P t = some z) (w : World) : (zeroValue t).run P w = .ok z w := by
  unfold zeroB at h
  cases hu : P.info? t with
  | none => simp [hu] at h
  | some d =>
    simp [hu] at h
    simp [zeroValue, typeInfo, Sem.run_bind, hu, Result.andThen, pure, h]
end

section
variable {P : Program} {ro : Option Nat} {n : Nat} {w0 : World} {Q : Exit → Act → World → Prop} {r : Env} {ds : List Nat} {m : Mem} {H : SHeap}
  {ops : Array Oper} {l : List Oper} {d : Nat} {ty : TypeId} {pos : String} {after : Array Edge}

theorem WL.move {x : Operand} {v : Value} (hx : r.ev x = some v) (hd : Nat.blt d n = true) (h : WL P ro n w0 ops Q l ((d, v) :: r) ds m H) :
    WL P ro n w0 ops Q (⟨some d, .move x, ty, pos, after, none⟩ :: l) r ds m H :=
  .val hd (fun _ h => by cases h) (fun tmps w ho _ => by simp [execOp, ho.ev hx]) h
theorem w_move {x : Operand} {v : Value} (h : WL P ro n w0 ops Q l ((d, v) :: r) ds m H) (hx : r.ev x = some v := by exact rfl) (hd : Nat.blt d n = true := by exact rfl) : WL P ro n w0 ops Q (⟨some d, .move x, ty, pos, after, none⟩ :: l) r ds m H := WL.move hx hd h
theorem WL.assign {x : Operand} {v : Value} (hx : r.ev x = some v) (hd : Nat.blt d n = true) (h : WL P ro n w0 ops Q l ((d, v) :: r) ds m H) :
    WL P ro n w0 ops Q (⟨some d, .assign x, ty, pos, after, none⟩ :: l) r ds m H :=
  .val hd (fun _ h => by cases h) (fun tmps w ho _ => by simp [execOp, ho.ev hx]) h
theorem w_assign {x : Operand} {v : Value} (h : WL P ro n w0 ops Q l ((d, v) :: r) ds m H) (hx : r.ev x = some v := by exact rfl) (hd : Nat.blt d n = true := by exact rfl) : WL P ro n w0 ops Q (⟨some d, .assign x, ty, pos, after, none⟩ :: l) r ds m H := WL.assign hx hd h
theorem WL.pick_t {c x y : Operand} {v : Value} (hc : r.ev c = some (.bool true)) (hx : r.ev x = some v) (hd : Nat.blt d n = true) (h : WL P ro n w0 ops Q l ((d, v) :: r) ds m H) :
    WL P ro n w0 ops Q (⟨some d, .pick c x y, ty, pos, after, none⟩ :: l) r ds m H :=
  .val hd (fun _ h => by cases h) (fun tmps w ho _ => by simp [execOp, ho.ev hx, ho.ev hc, asBool]) h
theorem w_pick_t {c x y : Operand} {v : Value} (h : WL P ro n w0 ops Q l ((d, v) :: r) ds m H) (hc : r.ev c = some (.bool true) := by exact rfl) (hx : r.ev x = some v := by exact rfl) (hd : Nat.blt d n = true := by exact rfl) : WL P ro n w0 ops Q (⟨some d, .pick c x y, ty, pos, after, none⟩ :: l) r ds m H := WL.pick_t hc hx hd h
theorem WL.pick_f {c x y : Operand} {v : Value} (hc : r.ev c = some (.bool false)) (hx : r.ev y = some v) (hd : Nat.blt d n = true) (h : WL P ro n w0 ops Q l ((d, v) :: r) ds m H) :
    WL P ro n w0 ops Q (⟨some d, .pick c x y, ty, pos, after, none⟩ :: l) r ds m H :=
  .val hd (fun _ h => by cases h) (fun tmps w ho _ => by simp [execOp, ho.ev hx, ho.ev hc, asBool]) h
theorem w_pick_f {c x y : Operand} {v : Value} (h : WL P ro n w0 ops Q l ((d, v) :: r) ds m H) (hc : r.ev c = some (.bool false) := by exact rfl) (hx : r.ev y = some v := by exact rfl) (hd : Nat.blt d n = true := by exact rfl) : WL P ro n w0 ops Q (⟨some d, .pick c x y, ty, pos, after, none⟩ :: l) r ds m H := WL.pick_f hc hx hd h
theorem WL.makeFunc {fn : Fn} {first captured : List Operand} {fv cv : List Value} (h1 : r.evs first = some fv) (h2 : r.evs captured = some cv) (hd : Nat.blt d n = true)
    (h : WL P ro n w0 ops Q l ((d, .func fn fv.toArray cv.toArray) :: r) ds m H) :
    WL P ro n w0 ops Q (⟨some d, .makeFunc fn first.toArray captured.toArray, ty, pos, after, none⟩ :: l) r ds m H :=
  .val hd (fun _ h => by cases h) (fun tmps w ho _ => by
    have e1 := ho.evs (marks ds) h1
    have e2 := ho.evs (marks ds) h2
    simp [execOp, Instr.makeFunc, e1, e2]) h
theorem w_makeFunc {fn : Fn} {first captured : List Operand} {fv cv : List Value} (h : WL P ro n w0 ops Q l ((d, .func fn fv.toArray cv.toArray) :: r) ds m H) (h1 : r.evs first = some fv := by exact rfl) (h2 : r.evs captured = some cv := by exact rfl) (hd : Nat.blt d n = true := by exact rfl) : WL P ro n w0 ops Q (⟨some d, .makeFunc fn first.toArray captured.toArray, ty, pos, after, none⟩ :: l) r ds m H := WL.makeFunc h1 h2 hd h
theorem WL.makeIface {t : TypeId} {x : Operand} {v : Value} (ht : (P.underlying t).any (fun d => match d with | .interface _ => false | _ => true) = true) (hx : r.ev x = some v) (hd : Nat.blt d n = true)
    (h : WL P ro n w0 ops Q l ((d, .iface t v) :: r) ds m H) : WL P ro n w0 ops Q (⟨some d, .makeInterface t x, ty, pos, after, none⟩ :: l) r ds m H :=
  .val hd (fun _ h => by cases h) (fun tmps w ho _ => by
    cases hu : P.underlying t with
    | none => simp [hu] at ht
    | some q =>
      simp only [execOp, Instr.makeInterface, Sem.run_bind, run_underlying hu, Result.andThen_ok, ho.ev hx]
      cases q <;> simp_all) h
theorem w_makeIface {t : TypeId} {x : Operand} {v : Value} (h : WL P ro n w0 ops Q l ((d, .iface t v) :: r) ds m H) (ht : (P.underlying t).any (fun d => match d with | .interface _ => false | _ => true) = true := by exact rfl) (hx : r.ev x = some v := by exact rfl) (hd : Nat.blt d n = true := by exact rfl) : WL P ro n w0 ops Q (⟨some d, .makeInterface t x, ty, pos, after, none⟩ :: l) r ds m H := WL.makeIface ht hx hd h
theorem WL.nilCheck {x : Operand} {a : Addr} (hx : r.ev x = some (.pointer (some a))) (hd : Nat.blt d n = true)
    (h : WL P ro n w0 ops Q l ((d, .pointer (some a)) :: r) ds m H) : WL P ro n w0 ops Q (⟨some d, .nilCheck x, ty, pos, after, none⟩ :: l) r ds m H :=
  .val hd (fun _ h => by cases h) (fun tmps w ho _ => by simp [execOp, ho.ev hx]) h
theorem w_nilCheck {x : Operand} {a : Addr} (h : WL P ro n w0 ops Q l ((d, .pointer (some a)) :: r) ds m H) (hx : r.ev x = some (.pointer (some a)) := by exact rfl) (hd : Nat.blt d n = true := by exact rfl) : WL P ro n w0 ops Q (⟨some d, .nilCheck x, ty, pos, after, none⟩ :: l) r ds m H := WL.nilCheck hx hd h
theorem WL.nilCheckFunc {x : Operand} {f : FuncId} {a b : Array Value} (hx : r.ev x = some (.func (.func f) a b)) (hd : Nat.blt d n = true)
    (h : WL P ro n w0 ops Q l ((d, .func (.func f) a b) :: r) ds m H) : WL P ro n w0 ops Q (⟨some d, .nilCheck x, ty, pos, after, none⟩ :: l) r ds m H :=
  .val hd (fun _ h => by cases h) (fun tmps w ho _ => by simp [execOp, ho.ev hx]) h
theorem w_nilCheckFunc {x : Operand} {f : FuncId} {a b : Array Value} (h : WL P ro n w0 ops Q l ((d, .func (.func f) a b) :: r) ds m H) (hx : r.ev x = some (.func (.func f) a b) := by exact rfl) (hd : Nat.blt d n = true := by exact rfl) : WL P ro n w0 ops Q (⟨some d, .nilCheck x, ty, pos, after, none⟩ :: l) r ds m H := WL.nilCheckFunc hx hd h
theorem WL.extract {x : Operand} {vs : List Value} {i : Nat} {v : Value} (hx : r.ev x = some (.tuple vs.toArray)) (hv : vs[i]? = some v) (hd : Nat.blt d n = true)
    (h : WL P ro n w0 ops Q l ((d, v) :: r) ds m H) : WL P ro n w0 ops Q (⟨some d, .extract x i, ty, pos, after, none⟩ :: l) r ds m H :=
  .val hd (fun _ h => by cases h) (fun tmps w ho _ => by simp [execOp, Instr.extract, ho.ev hx, hv]) h

theorem w_extract {x : Operand} {vs : List Value} {i : Nat} {v : Value} (h : WL P ro n w0 ops Q l ((d, v) :: r) ds m H) (hx : r.ev x = some (.tuple vs.toArray) := by exact rfl) (hv : vs[i]? = some v := by exact rfl) (hd : Nat.blt d n = true := by exact rfl) : WL P ro n w0 ops Q (⟨some d, .extract x i, ty, pos, after, none⟩ :: l) r ds m H := WL.extract hx hv hd h
/-! ### numbers -/
section
variable {k : IntKind} {x y : Operand} {a b : Int} {t t' : TypeId}
theorem WL.int2 {op : BinOp} {v : Value} (hop : ∀ tx vx vy, eqGuard op tx vx vy (.int k a) (.int k b) = pure ()) (hrun : ∀ w, (binOp op t (.int k a) (.int k b)).run P w = .ok v w)
    (hx : r.ev x = some (.int k a)) (hy : r.ev y = some (.int k b)) (hd : Nat.blt d n = true) (h : WL P ro n w0 ops Q l ((d, v) :: r) ds m H) :
    WL P ro n w0 ops Q (⟨some d, .binOp op t x y t', ty, pos, after, none⟩ :: l) r ds m H :=
  .val hd (fun _ h => by cases h) (fun tmps w ho _ => by
    simp only [execOp, ho.ev hx, ho.ev hy, hop, Sem.run_bind, Sem.run_pure, Result.andThen_ok, hrun]) h
theorem guard_int (op : BinOp) (tx : TypeId) (vx vy : Operand) (k k' : IntKind) (a b : Int) : eqGuard op tx vx vy (.int k a) (.int k' b) = pure () := by
  cases op <;> rfl
theorem WL.add (hx : r.ev x = some (.int k a)) (hy : r.ev y = some (.int k b)) (hd : Nat.blt d n = true) (h : WL P ro n w0 ops Q l ((d, .int k (k.wrap (a + b))) :: r) ds m H) :
    WL P ro n w0 ops Q (⟨some d, .binOp .add t x y t', ty, pos, after, none⟩ :: l) r ds m H :=
  .int2 (fun _ _ _ => guard_int _ _ _ _ _ _ _ _) (fun w => by simp [binOp, Op.intArith]) hx hy hd h
theorem WL.sub (hx : r.ev x = some (.int k a)) (hy : r.ev y = some (.int k b)) (hd : Nat.blt d n = true) (h : WL P ro n w0 ops Q l ((d, .int k (k.wrap (a - b))) :: r) ds m H) :
    WL P ro n w0 ops Q (⟨some d, .binOp .sub t x y t', ty, pos, after, none⟩ :: l) r ds m H :=
  .int2 (fun _ _ _ => guard_int _ _ _ _ _ _ _ _) (fun w => by simp [binOp, Op.intArith]) hx hy hd h
theorem WL.mul (hx : r.ev x = some (.int k a)) (hy : r.ev y = some (.int k b)) (hd : Nat.blt d n = true) (h : WL P ro n w0 ops Q l ((d, .int k (k.wrap (a * b))) :: r) ds m H) :
    WL P ro n w0 ops Q (⟨some d, .binOp .mul t x y t', ty, pos, after, none⟩ :: l) r ds m H :=
  .int2 (fun _ _ _ => guard_int _ _ _ _ _ _ _ _) (fun w => by simp [binOp, Op.intArith]) hx hy hd h
theorem wrap64_id {e : Int} (h : -9223372036854775808 ≤ e ∧ e ≤ 9223372036854775807) : IntKind.i64.wrap e = e := by
  rw [IntKind.wrap_i64]; omega
theorem wrap32_id {e : Int} (h : -2147483648 ≤ e ∧ e ≤ 2147483647) : IntKind.i32.wrap e = e := by
  rw [IntKind.wrap_i32]; omega
theorem wrapu8_id {e : Int} (h : 0 ≤ e ∧ e ≤ 255) : IntKind.u8.wrap e = e := by
  simp [IntKind.wrap, IntKind.signed, IntKind.bits]; omega
theorem wrapu64_id {e : Int} (h : 0 ≤ e ∧ e ≤ 18446744073709551615) : IntKind.u64.wrap e = e := by
  simp [IntKind.wrap, IntKind.signed, IntKind.bits]; omega
theorem wrapu32_id {e : Int} (h : 0 ≤ e ∧ e ≤ 4294967295) : IntKind.u32.wrap e = e := by
  simp [IntKind.wrap, IntKind.signed, IntKind.bits]; omega
theorem WL.add64 (hx : r.ev x = some (.int .i64 a)) (hy : r.ev y = some (.int .i64 b)) (hd : Nat.blt d n = true) (hb : -9223372036854775808 ≤ a + b ∧ a + b ≤ 9223372036854775807)
    (h : WL P ro n w0 ops Q l ((d, .int .i64 (a + b)) :: r) ds m H) : WL P ro n w0 ops Q (⟨some d, .binOp .add t x y t', ty, pos, after, none⟩ :: l) r ds m H :=
  .add hx hy hd (by rw [wrap64_id hb]; exact h)
theorem w_add64 (h : WL P ro n w0 ops Q l ((d, .int .i64 (a + b)) :: r) ds m H) (hx : r.ev x = some (.int .i64 a) := by exact rfl) (hy : r.ev y = some (.int .i64 b) := by exact rfl) (hd : Nat.blt d n = true := by exact rfl) (hb : -9223372036854775808 ≤ a + b ∧ a + b ≤ 9223372036854775807 := by omega) : WL P ro n w0 ops Q (⟨some d, .binOp .add t x y t', ty, pos, after, none⟩ :: l) r ds m H := WL.add64 hx hy hd hb h
theorem WL.sub64 (hx : r.ev x = some (.int .i64 a)) (hy : r.ev y = some (.int .i64 b)) (hd : Nat.blt d n = true) (hb : -9223372036854775808 ≤ a - b ∧ a - b ≤ 9223372036854775807)
    (h : WL P ro n w0 ops Q l ((d, .int .i64 (a - b)) :: r) ds m H) : WL P ro n w0 ops Q (⟨some d, .binOp .sub t x y t', ty, pos, after, none⟩ :: l) r ds m H :=
  .sub hx hy hd (by rw [wrap64_id hb]; exact h)
theorem w_sub64 (h : WL P ro n w0 ops Q l ((d, .int .i64 (a - b)) :: r) ds m H) (hx : r.ev x = some (.int .i64 a) := by exact rfl) (hy : r.ev y = some (.int .i64 b) := by exact rfl) (hd : Nat.blt d n = true := by exact rfl) (hb : -9223372036854775808 ≤ a - b ∧ a - b ≤ 9223372036854775807 := by omega) : WL P ro n w0 ops Q (⟨some d, .binOp .sub t x y t', ty, pos, after, none⟩ :: l) r ds m H := WL.sub64 hx hy hd hb h
theorem WL.mul64 (hx : r.ev x = some (.int .i64 a)) (hy : r.ev y = some (.int .i64 b)) (hd : Nat.blt d n = true) (hb : -9223372036854775808 ≤ a * b ∧ a * b ≤ 9223372036854775807)
    (h : WL P ro n w0 ops Q l ((d, .int .i64 (a * b)) :: r) ds m H) : WL P ro n w0 ops Q (⟨some d, .binOp .mul t x y t', ty, pos, after, none⟩ :: l) r ds m H :=
  .mul hx hy hd (by rw [wrap64_id hb]; exact h)
theorem w_mul64 (h : WL P ro n w0 ops Q l ((d, .int .i64 (a * b)) :: r) ds m H) (hx : r.ev x = some (.int .i64 a) := by exact rfl) (hy : r.ev y = some (.int .i64 b) := by exact rfl) (hd : Nat.blt d n = true := by exact rfl) (hb : -9223372036854775808 ≤ a * b ∧ a * b ≤ 9223372036854775807 := by omega) : WL P ro n w0 ops Q (⟨some d, .binOp .mul t x y t', ty, pos, after, none⟩ :: l) r ds m H := WL.mul64 hx hy hd hb h
theorem WL.add32 (hx : r.ev x = some (.int .i32 a)) (hy : r.ev y = some (.int .i32 b)) (hd : Nat.blt d n = true) (hb : -2147483648 ≤ a + b ∧ a + b ≤ 2147483647)
    (h : WL P ro n w0 ops Q l ((d, .int .i32 (a + b)) :: r) ds m H) : WL P ro n w0 ops Q (⟨some d, .binOp .add t x y t', ty, pos, after, none⟩ :: l) r ds m H :=
  .add hx hy hd (by rw [wrap32_id hb]; exact h)
theorem w_add32 (h : WL P ro n w0 ops Q l ((d, .int .i32 (a + b)) :: r) ds m H) (hx : r.ev x = some (.int .i32 a) := by exact rfl) (hy : r.ev y = some (.int .i32 b) := by exact rfl) (hd : Nat.blt d n = true := by exact rfl) (hb : -2147483648 ≤ a + b ∧ a + b ≤ 2147483647 := by omega) : WL P ro n w0 ops Q (⟨some d, .binOp .add t x y t', ty, pos, after, none⟩ :: l) r ds m H := WL.add32 hx hy hd hb h
theorem WL.sub32 (hx : r.ev x = some (.int .i32 a)) (hy : r.ev y = some (.int .i32 b)) (hd : Nat.blt d n = true) (hb : -2147483648 ≤ a - b ∧ a - b ≤ 2147483647)
    (h : WL P ro n w0 ops Q l ((d, .int .i32 (a - b)) :: r) ds m H) : WL P ro n w0 ops Q (⟨some d, .binOp .sub t x y t', ty, pos, after, none⟩ :: l) r ds m H :=
  .sub hx hy hd (by rw [wrap32_id hb]; exact h)
theorem w_sub32 (h : WL P ro n w0 ops Q l ((d, .int .i32 (a - b)) :: r) ds m H) (hx : r.ev x = some (.int .i32 a) := by exact rfl) (hy : r.ev y = some (.int .i32 b) := by exact rfl) (hd : Nat.blt d n = true := by exact rfl) (hb : -2147483648 ≤ a - b ∧ a - b ≤ 2147483647 := by omega) : WL P ro n w0 ops Q (⟨some d, .binOp .sub t x y t', ty, pos, after, none⟩ :: l) r ds m H := WL.sub32 hx hy hd hb h
theorem WL.mul32 (hx : r.ev x = some (.int .i32 a)) (hy : r.ev y = some (.int .i32 b)) (hd : Nat.blt d n = true) (hb : -2147483648 ≤ a * b ∧ a * b ≤ 2147483647)
    (h : WL P ro n w0 ops Q l ((d, .int .i32 (a * b)) :: r) ds m H) : WL P ro n w0 ops Q (⟨some d, .binOp .mul t x y t', ty, pos, after, none⟩ :: l) r ds m H :=
  .mul hx hy hd (by rw [wrap32_id hb]; exact h)
theorem w_mul32 (h : WL P ro n w0 ops Q l ((d, .int .i32 (a * b)) :: r) ds m H) (hx : r.ev x = some (.int .i32 a) := by exact rfl) (hy : r.ev y = some (.int .i32 b) := by exact rfl) (hd : Nat.blt d n = true := by exact rfl) (hb : -2147483648 ≤ a * b ∧ a * b ≤ 2147483647 := by omega) : WL P ro n w0 ops Q (⟨some d, .binOp .mul t x y t', ty, pos, after, none⟩ :: l) r ds m H := WL.mul32 hx hy hd hb h
theorem WL.addu8 (hx : r.ev x = some (.int .u8 a)) (hy : r.ev y = some (.int .u8 b)) (hd : Nat.blt d n = true) (hb : 0 ≤ a + b ∧ a + b ≤ 255)
    (h : WL P ro n w0 ops Q l ((d, .int .u8 (a + b)) :: r) ds m H) : WL P ro n w0 ops Q (⟨some d, .binOp .add t x y t', ty, pos, after, none⟩ :: l) r ds m H :=
  .add hx hy hd (by rw [wrapu8_id hb]; exact h)
theorem w_addu8 (h : WL P ro n w0 ops Q l ((d, .int .u8 (a + b)) :: r) ds m H) (hx : r.ev x = some (.int .u8 a) := by exact rfl) (hy : r.ev y = some (.int .u8 b) := by exact rfl) (hd : Nat.blt d n = true := by exact rfl) (hb : 0 ≤ a + b ∧ a + b ≤ 255 := by omega) : WL P ro n w0 ops Q (⟨some d, .binOp .add t x y t', ty, pos, after, none⟩ :: l) r ds m H := WL.addu8 hx hy hd hb h
theorem WL.subu8 (hx : r.ev x = some (.int .u8 a)) (hy : r.ev y = some (.int .u8 b)) (hd : Nat.blt d n = true) (hb : 0 ≤ a - b ∧ a - b ≤ 255)
    (h : WL P ro n w0 ops Q l ((d, .int .u8 (a - b)) :: r) ds m H) : WL P ro n w0 ops Q (⟨some d, .binOp .sub t x y t', ty, pos, after, none⟩ :: l) r ds m H :=
  .sub hx hy hd (by rw [wrapu8_id hb]; exact h)
theorem w_subu8 (h : WL P ro n w0 ops Q l ((d, .int .u8 (a - b)) :: r) ds m H) (hx : r.ev x = some (.int .u8 a) := by exact rfl) (hy : r.ev y = some (.int .u8 b) := by exact rfl) (hd : Nat.blt d n = true := by exact rfl) (hb : 0 ≤ a - b ∧ a - b ≤ 255 := by omega) : WL P ro n w0 ops Q (⟨some d, .binOp .sub t x y t', ty, pos, after, none⟩ :: l) r ds m H := WL.subu8 hx hy hd hb h
/-- a quotient of numbers not below 0 -/
theorem WL.quo64 (hx : r.ev x = some (.int .i64 a)) (hy : r.ev y = some (.int .i64 b)) (hd : Nat.blt d n = true) (ha : 0 ≤ a ∧ a ≤ 9223372036854775807) (hb : 1 ≤ b)
    (h : WL P ro n w0 ops Q l ((d, .int .i64 (a / b)) :: r) ds m H) : WL P ro n w0 ops Q (⟨some d, .binOp .quo t x y t', ty, pos, after, none⟩ :: l) r ds m H := by
  refine .int2 (fun _ _ _ => guard_int _ _ _ _ _ _ _ _) (fun w => ?_) hx hy hd h
  have h0 : ¬ b = 0 := by omega
  have h1 : a.tdiv b = a / b := Int.tdiv_eq_ediv_of_nonneg ha.1
  have h2 : 0 ≤ a / b := Int.ediv_nonneg ha.1 (by omega)
  have h3 : a / b ≤ a := Int.ediv_le_self b ha.1
  simp [binOp, Op.intDiv, h0, h1, wrap64_id (e := a / b) ⟨by omega, by omega⟩]
theorem w_quo64 (h : WL P ro n w0 ops Q l ((d, .int .i64 (a / b)) :: r) ds m H) (hx : r.ev x = some (.int .i64 a) := by exact rfl) (hy : r.ev y = some (.int .i64 b) := by exact rfl) (hd : Nat.blt d n = true := by exact rfl) (ha : 0 ≤ a ∧ a ≤ 9223372036854775807 := by omega) (hb : 1 ≤ b := by omega) : WL P ro n w0 ops Q (⟨some d, .binOp .quo t x y t', ty, pos, after, none⟩ :: l) r ds m H := WL.quo64 hx hy hd ha hb h
theorem WL.rem64 (hx : r.ev x = some (.int .i64 a)) (hy : r.ev y = some (.int .i64 b)) (hd : Nat.blt d n = true) (ha : 0 ≤ a) (hb : 1 ≤ b)
    (h : WL P ro n w0 ops Q l ((d, .int .i64 (a % b)) :: r) ds m H) : WL P ro n w0 ops Q (⟨some d, .binOp .rem t x y t', ty, pos, after, none⟩ :: l) r ds m H := by
  refine .int2 (fun _ _ _ => guard_int _ _ _ _ _ _ _ _) (fun w => ?_) hx hy hd h
  have h0 : ¬ b = 0 := by omega
  have h1 : a.tmod b = a % b := Int.tmod_eq_emod_of_nonneg ha
  simp [binOp, Op.intDiv, h0, h1]
theorem w_rem64 (h : WL P ro n w0 ops Q l ((d, .int .i64 (a % b)) :: r) ds m H) (hx : r.ev x = some (.int .i64 a) := by exact rfl) (hy : r.ev y = some (.int .i64 b) := by exact rfl) (hd : Nat.blt d n = true := by exact rfl) (ha : 0 ≤ a := by omega) (hb : 1 ≤ b := by omega) : WL P ro n w0 ops Q (⟨some d, .binOp .rem t x y t', ty, pos, after, none⟩ :: l) r ds m H := WL.rem64 hx hy hd ha hb h
theorem WL.quo (hx : r.ev x = some (.int k a)) (hy : r.ev y = some (.int k b)) (hd : Nat.blt d n = true) (hb : b ≠ 0)
    (h : WL P ro n w0 ops Q l ((d, .int k (k.wrap (a.tdiv b))) :: r) ds m H) : WL P ro n w0 ops Q (⟨some d, .binOp .quo t x y t', ty, pos, after, none⟩ :: l) r ds m H :=
  .int2 (fun _ _ _ => guard_int _ _ _ _ _ _ _ _) (fun w => by simp [binOp, Op.intDiv, hb]) hx hy hd h
theorem WL.rem (hx : r.ev x = some (.int k a)) (hy : r.ev y = some (.int k b)) (hd : Nat.blt d n = true) (hb : b ≠ 0)
    (h : WL P ro n w0 ops Q l ((d, .int k (a.tmod b)) :: r) ds m H) : WL P ro n w0 ops Q (⟨some d, .binOp .rem t x y t', ty, pos, after, none⟩ :: l) r ds m H :=
  .int2 (fun _ _ _ => guard_int _ _ _ _ _ _ _ _) (fun w => by simp [binOp, Op.intDiv, hb]) hx hy hd h
theorem WL.lss (hx : r.ev x = some (.int k a)) (hy : r.ev y = some (.int k b)) (hd : Nat.blt d n = true) (h : WL P ro n w0 ops Q l ((d, .bool (dcd (a < b))) :: r) ds m H) :
    WL P ro n w0 ops Q (⟨some d, .binOp .lss t x y t', ty, pos, after, none⟩ :: l) r ds m H :=
  .int2 (fun _ _ _ => guard_int _ _ _ _ _ _ _ _) (fun w => by simp [binOp, Op.intCmp, dcd_eq]) hx hy hd h
theorem w_lss (h : WL P ro n w0 ops Q l ((d, .bool (dcd (a < b))) :: r) ds m H) (hx : r.ev x = some (.int k a) := by exact rfl) (hy : r.ev y = some (.int k b) := by exact rfl) (hd : Nat.blt d n = true := by exact rfl) : WL P ro n w0 ops Q (⟨some d, .binOp .lss t x y t', ty, pos, after, none⟩ :: l) r ds m H := WL.lss hx hy hd h
theorem WL.leq (hx : r.ev x = some (.int k a)) (hy : r.ev y = some (.int k b)) (hd : Nat.blt d n = true) (h : WL P ro n w0 ops Q l ((d, .bool (dcd (a ≤ b))) :: r) ds m H) :
    WL P ro n w0 ops Q (⟨some d, .binOp .leq t x y t', ty, pos, after, none⟩ :: l) r ds m H :=
  .int2 (fun _ _ _ => guard_int _ _ _ _ _ _ _ _) (fun w => by simp [binOp, Op.intCmp, dcd_eq]) hx hy hd h
theorem w_leq (h : WL P ro n w0 ops Q l ((d, .bool (dcd (a ≤ b))) :: r) ds m H) (hx : r.ev x = some (.int k a) := by exact rfl) (hy : r.ev y = some (.int k b) := by exact rfl) (hd : Nat.blt d n = true := by exact rfl) : WL P ro n w0 ops Q (⟨some d, .binOp .leq t x y t', ty, pos, after, none⟩ :: l) r ds m H := WL.leq hx hy hd h
theorem WL.gtr (hx : r.ev x = some (.int k a)) (hy : r.ev y = some (.int k b)) (hd : Nat.blt d n = true) (h : WL P ro n w0 ops Q l ((d, .bool (dcd (b < a))) :: r) ds m H) :
    WL P ro n w0 ops Q (⟨some d, .binOp .gtr t x y t', ty, pos, after, none⟩ :: l) r ds m H :=
  .int2 (fun _ _ _ => guard_int _ _ _ _ _ _ _ _) (fun w => by simp [binOp, Op.intCmp, dcd_eq]) hx hy hd h
theorem w_gtr (h : WL P ro n w0 ops Q l ((d, .bool (dcd (b < a))) :: r) ds m H) (hx : r.ev x = some (.int k a) := by exact rfl) (hy : r.ev y = some (.int k b) := by exact rfl) (hd : Nat.blt d n = true := by exact rfl) : WL P ro n w0 ops Q (⟨some d, .binOp .gtr t x y t', ty, pos, after, none⟩ :: l) r ds m H := WL.gtr hx hy hd h
theorem WL.geq (hx : r.ev x = some (.int k a)) (hy : r.ev y = some (.int k b)) (hd : Nat.blt d n = true) (h : WL P ro n w0 ops Q l ((d, .bool (dcd (b ≤ a))) :: r) ds m H) :
    WL P ro n w0 ops Q (⟨some d, .binOp .geq t x y t', ty, pos, after, none⟩ :: l) r ds m H :=
  .int2 (fun _ _ _ => guard_int _ _ _ _ _ _ _ _) (fun w => by simp [binOp, Op.intCmp, dcd_eq]) hx hy hd h
theorem w_geq (h : WL P ro n w0 ops Q l ((d, .bool (dcd (b ≤ a))) :: r) ds m H) (hx : r.ev x = some (.int k a) := by exact rfl) (hy : r.ev y = some (.int k b) := by exact rfl) (hd : Nat.blt d n = true := by exact rfl) : WL P ro n w0 ops Q (⟨some d, .binOp .geq t x y t', ty, pos, after, none⟩ :: l) r ds m H := WL.geq hx hy hd h
theorem WL.eqlI (hx : r.ev x = some (.int k a)) (hy : r.ev y = some (.int k b)) (hd : Nat.blt d n = true) (h : WL P ro n w0 ops Q l ((d, .bool (dcd (a = b))) :: r) ds m H) :
    WL P ro n w0 ops Q (⟨some d, .binOp .eql t x y t', ty, pos, after, none⟩ :: l) r ds m H :=
  .int2 (fun _ _ _ => guard_int _ _ _ _ _ _ _ _) (fun w => by simp [binOp, Op.intCmp, dcd_eq]; rfl) hx hy hd h
theorem w_eqlI (h : WL P ro n w0 ops Q l ((d, .bool (dcd (a = b))) :: r) ds m H) (hx : r.ev x = some (.int k a) := by exact rfl) (hy : r.ev y = some (.int k b) := by exact rfl) (hd : Nat.blt d n = true := by exact rfl) : WL P ro n w0 ops Q (⟨some d, .binOp .eql t x y t', ty, pos, after, none⟩ :: l) r ds m H := WL.eqlI hx hy hd h
theorem WL.neqI (hx : r.ev x = some (.int k a)) (hy : r.ev y = some (.int k b)) (hd : Nat.blt d n = true) (h : WL P ro n w0 ops Q l ((d, .bool (!dcd (a = b))) :: r) ds m H) :
    WL P ro n w0 ops Q (⟨some d, .binOp .neq t x y t', ty, pos, after, none⟩ :: l) r ds m H :=
  .int2 (fun _ _ _ => guard_int _ _ _ _ _ _ _ _) (fun w => by simp [binOp, Op.intCmp, dcd_eq]; rfl) hx hy hd h
theorem w_neqI (h : WL P ro n w0 ops Q l ((d, .bool (!dcd (a = b))) :: r) ds m H) (hx : r.ev x = some (.int k a) := by exact rfl) (hy : r.ev y = some (.int k b) := by exact rfl) (hd : Nat.blt d n = true := by exact rfl) : WL P ro n w0 ops Q (⟨some d, .binOp .neq t x y t', ty, pos, after, none⟩ :: l) r ds m H := WL.neqI hx hy hd h
theorem shr_val {a : Int} {e : Nat} (he : e ≤ 64) (h0 : e ≤ k.bits) : (binOp .shr t (.int k a) (.int .u64 (e : Int))).run P w0 = .ok (.int k (a / 2 ^ e)) w0 := by
  have h1 : ¬ ((e : Int) < 0) := by omega
  have h2 : min e k.bits = e := Nat.min_eq_left h0
  have h3 : a.fdiv (2 ^ e) = a / 2 ^ e := Int.fdiv_eq_ediv_of_nonneg _ (by exact_mod_cast Nat.zero_le _)
  simp [binOp, Op.shift, h1, h2, h3]
/-- a shift to the right by so many places, told in the text -/
theorem WL.shr {e : Nat} {ye : Int} {ky : IntKind} (hx : r.ev x = some (.int k a)) (hy : r.ev y = some (.int ky ye)) (hye : ye = e) (h0 : Nat.ble e k.bits = true) (hd : Nat.blt d n = true)
    (h : WL P ro n w0 ops Q l ((d, .int k (a / 2 ^ e)) :: r) ds m H) : WL P ro n w0 ops Q (⟨some d, .binOp .shr t x y t', ty, pos, after, none⟩ :: l) r ds m H :=
  .val hd (fun _ h => by cases h) (fun tmps w ho _ => by
    subst hye
    have h1 : ¬ ((e : Int) < 0) := by omega
    have h2 : min e k.bits = e := Nat.min_eq_left (by simpa using h0)
    have h3 : a.fdiv (2 ^ e) = a / 2 ^ e := Int.fdiv_eq_ediv_of_nonneg _ (by exact_mod_cast Nat.zero_le _)
    simp [execOp, ho.ev hx, ho.ev hy, guard_int, binOp, Op.shift, h1, h2, h3]) h
theorem w_shr {e : Nat} {ye : Int} {ky : IntKind} (h : WL P ro n w0 ops Q l ((d, .int k (a / 2 ^ e)) :: r) ds m H) (hx : r.ev x = some (.int k a) := by exact rfl) (hy : r.ev y = some (.int ky ye) := by exact rfl) (hye : ye = e := by exact rfl) (h0 : Nat.ble e k.bits = true := by exact rfl) (hd : Nat.blt d n = true := by exact rfl) : WL P ro n w0 ops Q (⟨some d, .binOp .shr t x y t', ty, pos, after, none⟩ :: l) r ds m H := WL.shr hx hy hye h0 hd h
theorem WL.shl {e : Nat} {ye : Int} {ky : IntKind} (hx : r.ev x = some (.int k a)) (hy : r.ev y = some (.int ky ye)) (hye : ye = e) (h0 : Nat.ble e k.bits = true) (hd : Nat.blt d n = true)
    (h : WL P ro n w0 ops Q l ((d, .int k (k.wrap (a * 2 ^ e))) :: r) ds m H) : WL P ro n w0 ops Q (⟨some d, .binOp .shl t x y t', ty, pos, after, none⟩ :: l) r ds m H :=
  .val hd (fun _ h => by cases h) (fun tmps w ho _ => by
    subst hye
    have h1 : ¬ ((e : Int) < 0) := by omega
    have h2 : min e k.bits = e := Nat.min_eq_left (by simpa using h0)
    simp [execOp, ho.ev hx, ho.ev hy, guard_int, binOp, Op.shift, h1, h2]) h
theorem w_shl {e : Nat} {ye : Int} {ky : IntKind} (h : WL P ro n w0 ops Q l ((d, .int k (k.wrap (a * 2 ^ e))) :: r) ds m H) (hx : r.ev x = some (.int k a) := by exact rfl) (hy : r.ev y = some (.int ky ye) := by exact rfl) (hye : ye = e := by exact rfl) (h0 : Nat.ble e k.bits = true := by exact rfl) (hd : Nat.blt d n = true := by exact rfl) : WL P ro n w0 ops Q (⟨some d, .binOp .shl t x y t', ty, pos, after, none⟩ :: l) r ds m H := WL.shl hx hy hye h0 hd h
theorem ofInt8 {a : Int} (h : 0 ≤ a ∧ a ≤ 255) : (BitVec.ofInt 8 a).toNat = a.toNat := by
  rw [BitVec.toNat_ofInt]; norm_cast; omega
theorem WL.and8 (hx : r.ev x = some (.int .u8 a)) (hy : r.ev y = some (.int .u8 b)) (hd : Nat.blt d n = true) (ha : 0 ≤ a ∧ a ≤ 255) (hb : 0 ≤ b ∧ b ≤ 255)
    (h : WL P ro n w0 ops Q l ((d, .int .u8 ((a.toNat &&& b.toNat : Nat) : Int)) :: r) ds m H) : WL P ro n w0 ops Q (⟨some d, .binOp .and t x y t', ty, pos, after, none⟩ :: l) r ds m H := by
  refine .int2 (fun _ _ _ => guard_int _ _ _ _ _ _ _ _) (fun w => ?_) hx hy hd h
  have h1 := ofInt8 ha
  have h2 := ofInt8 hb
  have h3 : a.toNat &&& b.toNat ≤ a.toNat := Nat.and_le_left
  have h4 : IntKind.u8.wrap ((a.toNat &&& b.toNat : Nat) : Int) = ((a.toNat &&& b.toNat : Nat) : Int) := wrapu8_id ⟨by omega, by omega⟩
  show (pure (Value.int IntKind.u8 (IntKind.u8.wrap (((BitVec.ofInt 8 a) &&& (BitVec.ofInt 8 b)).toNat : Int))) : Sem Value).run P w = _
  rw [BitVec.toNat_and, h1, h2, h4]; rfl
theorem w_and8 (h : WL P ro n w0 ops Q l ((d, .int .u8 ((a.toNat &&& b.toNat : Nat) : Int)) :: r) ds m H) (hx : r.ev x = some (.int .u8 a) := by exact rfl) (hy : r.ev y = some (.int .u8 b) := by exact rfl) (hd : Nat.blt d n = true := by exact rfl) (ha : 0 ≤ a ∧ a ≤ 255 := by omega) (hb : 0 ≤ b ∧ b ≤ 255 := by omega) : WL P ro n w0 ops Q (⟨some d, .binOp .and t x y t', ty, pos, after, none⟩ :: l) r ds m H := WL.and8 hx hy hd ha hb h
theorem WL.or8 (hx : r.ev x = some (.int .u8 a)) (hy : r.ev y = some (.int .u8 b)) (hd : Nat.blt d n = true) (ha : 0 ≤ a ∧ a ≤ 255) (hb : 0 ≤ b ∧ b ≤ 255)
    (h : WL P ro n w0 ops Q l ((d, .int .u8 ((a.toNat ||| b.toNat : Nat) : Int)) :: r) ds m H) : WL P ro n w0 ops Q (⟨some d, .binOp .or t x y t', ty, pos, after, none⟩ :: l) r ds m H := by
  refine .int2 (fun _ _ _ => guard_int _ _ _ _ _ _ _ _) (fun w => ?_) hx hy hd h
  have h1 := ofInt8 ha
  have h2 := ofInt8 hb
  have h3 : a.toNat ||| b.toNat < 2 ^ 8 := Nat.or_lt_two_pow (by omega) (by omega)
  have h4 : IntKind.u8.wrap ((a.toNat ||| b.toNat : Nat) : Int) = ((a.toNat ||| b.toNat : Nat) : Int) := wrapu8_id ⟨by omega, by omega⟩
  show (pure (Value.int IntKind.u8 (IntKind.u8.wrap (((BitVec.ofInt 8 a) ||| (BitVec.ofInt 8 b)).toNat : Int))) : Sem Value).run P w = _
  rw [BitVec.toNat_or, h1, h2, h4]; rfl
theorem w_or8 (h : WL P ro n w0 ops Q l ((d, .int .u8 ((a.toNat ||| b.toNat : Nat) : Int)) :: r) ds m H) (hx : r.ev x = some (.int .u8 a) := by exact rfl) (hy : r.ev y = some (.int .u8 b) := by exact rfl) (hd : Nat.blt d n = true := by exact rfl) (ha : 0 ≤ a ∧ a ≤ 255 := by omega) (hb : 0 ≤ b ∧ b ≤ 255 := by omega) : WL P ro n w0 ops Q (⟨some d, .binOp .or t x y t', ty, pos, after, none⟩ :: l) r ds m H := WL.or8 hx hy hd ha hb h
theorem WL.neg (hx : r.ev x = some (.int k a)) (hd : Nat.blt d n = true) (h : WL P ro n w0 ops Q l ((d, .int k (k.wrap (-a))) :: r) ds m H) :
    WL P ro n w0 ops Q (⟨some d, .unOp .neg t x, ty, pos, after, none⟩ :: l) r ds m H :=
  .val hd (fun _ h => by cases h) (fun tmps w ho _ => by simp [execOp, ho.ev hx, Op.unary, Op.intArith]) h
theorem WL.neg64 (hx : r.ev x = some (.int .i64 a)) (hd : Nat.blt d n = true) (hb : -9223372036854775808 ≤ -a ∧ -a ≤ 9223372036854775807) (h : WL P ro n w0 ops Q l ((d, .int .i64 (-a)) :: r) ds m H) :
    WL P ro n w0 ops Q (⟨some d, .unOp .neg t x, ty, pos, after, none⟩ :: l) r ds m H :=
  .neg hx hd (by rw [wrap64_id hb]; exact h)
theorem w_neg64 (h : WL P ro n w0 ops Q l ((d, .int .i64 (-a)) :: r) ds m H) (hx : r.ev x = some (.int .i64 a) := by exact rfl) (hd : Nat.blt d n = true := by exact rfl) (hb : -9223372036854775808 ≤ -a ∧ -a ≤ 9223372036854775807 := by omega) : WL P ro n w0 ops Q (⟨some d, .unOp .neg t x, ty, pos, after, none⟩ :: l) r ds m H := WL.neg64 hx hd hb h
theorem WL.not {b : Bool} (hx : r.ev x = some (.bool b)) (hd : Nat.blt d n = true) (h : WL P ro n w0 ops Q l ((d, .bool (!b)) :: r) ds m H) :
    WL P ro n w0 ops Q (⟨some d, .unOp .not t x, ty, pos, after, none⟩ :: l) r ds m H :=
  .val hd (fun _ h => by cases h) (fun tmps w ho _ => by simp [execOp, ho.ev hx, Op.unary]) h
theorem w_not {b : Bool} (h : WL P ro n w0 ops Q l ((d, .bool (!b)) :: r) ds m H) (hx : r.ev x = some (.bool b) := by exact rfl) (hd : Nat.blt d n = true := by exact rfl) : WL P ro n w0 ops Q (⟨some d, .unOp .not t x, ty, pos, after, none⟩ :: l) r ds m H := WL.not hx hd h
theorem run_convert_int {src dst : TypeId} {kd : IntKind} (hs : (P.underlying src).isSome = true) (hu : P.underlying dst = some (.int kd)) (w : World) : (convert src dst (.int k a)).run P w = .ok (.int kd (kd.wrap a)) w := by
  cases hq : P.underlying src with
  | none => simp [hq] at hs
  | some q => simp [convert, Sem.run_bind, run_underlying hq, run_underlying hu, Result.andThen_ok, Conv.intToInt]
theorem WL.conv {src dst : TypeId} {kd : IntKind} (hx : r.ev x = some (.int k a)) (hs : (P.underlying src).isSome = true) (hu : P.underlying dst = some (.int kd)) (hd : Nat.blt d n = true)
    (h : WL P ro n w0 ops Q l ((d, .int kd (kd.wrap a)) :: r) ds m H) : WL P ro n w0 ops Q (⟨some d, .convert src dst x, ty, pos, after, none⟩ :: l) r ds m H :=
  .val hd (fun _ h => by cases h) (fun tmps w ho _ => by simp only [execOp, ho.ev hx, Sem.run_bind, run_convert_int hs hu, Result.andThen_ok, Sem.run_pure]) h
theorem WL.conv64 {src dst : TypeId} (hx : r.ev x = some (.int k a)) (hs : (P.underlying src).isSome = true) (hu : P.underlying dst = some (.int .i64)) (hd : Nat.blt d n = true)
    (hb : -9223372036854775808 ≤ a ∧ a ≤ 9223372036854775807)
    (h : WL P ro n w0 ops Q l ((d, .int .i64 a) :: r) ds m H) : WL P ro n w0 ops Q (⟨some d, .convert src dst x, ty, pos, after, none⟩ :: l) r ds m H :=
  .conv hx hs hu hd (by rw [wrap64_id hb]; exact h)
theorem w_conv64 {src dst : TypeId} (h : WL P ro n w0 ops Q l ((d, .int .i64 a) :: r) ds m H) (hx : r.ev x = some (.int k a) := by exact rfl) (hs : (P.underlying src).isSome = true := by exact rfl) (hu : P.underlying dst = some (.int .i64) := by exact rfl) (hd : Nat.blt d n = true := by exact rfl) (hb : -9223372036854775808 ≤ a ∧ a ≤ 9223372036854775807 := by omega) : WL P ro n w0 ops Q (⟨some d, .convert src dst x, ty, pos, after, none⟩ :: l) r ds m H := WL.conv64 hx hs hu hd hb h
theorem WL.conv32 {src dst : TypeId} (hx : r.ev x = some (.int k a)) (hs : (P.underlying src).isSome = true) (hu : P.underlying dst = some (.int .i32)) (hd : Nat.blt d n = true)
    (hb : -2147483648 ≤ a ∧ a ≤ 2147483647)
    (h : WL P ro n w0 ops Q l ((d, .int .i32 a) :: r) ds m H) : WL P ro n w0 ops Q (⟨some d, .convert src dst x, ty, pos, after, none⟩ :: l) r ds m H :=
  .conv hx hs hu hd (by rw [wrap32_id hb]; exact h)
theorem w_conv32 {src dst : TypeId} (h : WL P ro n w0 ops Q l ((d, .int .i32 a) :: r) ds m H) (hx : r.ev x = some (.int k a) := by exact rfl) (hs : (P.underlying src).isSome = true := by exact rfl) (hu : P.underlying dst = some (.int .i32) := by exact rfl) (hd : Nat.blt d n = true := by exact rfl) (hb : -2147483648 ≤ a ∧ a ≤ 2147483647 := by omega) : WL P ro n w0 ops Q (⟨some d, .convert src dst x, ty, pos, after, none⟩ :: l) r ds m H := WL.conv32 hx hs hu hd hb h
theorem WL.conv8 {src dst : TypeId} (hx : r.ev x = some (.int k a)) (hs : (P.underlying src).isSome = true) (hu : P.underlying dst = some (.int .u8)) (hd : Nat.blt d n = true)
    (hb : 0 ≤ a ∧ a ≤ 255)
    (h : WL P ro n w0 ops Q l ((d, .int .u8 a) :: r) ds m H) : WL P ro n w0 ops Q (⟨some d, .convert src dst x, ty, pos, after, none⟩ :: l) r ds m H :=
  .conv hx hs hu hd (by rw [wrapu8_id hb]; exact h)
theorem w_conv8 {src dst : TypeId} (h : WL P ro n w0 ops Q l ((d, .int .u8 a) :: r) ds m H) (hx : r.ev x = some (.int k a) := by exact rfl) (hs : (P.underlying src).isSome = true := by exact rfl) (hu : P.underlying dst = some (.int .u8) := by exact rfl) (hd : Nat.blt d n = true := by exact rfl) (hb : 0 ≤ a ∧ a ≤ 255 := by omega) : WL P ro n w0 ops Q (⟨some d, .convert src dst x, ty, pos, after, none⟩ :: l) r ds m H := WL.conv8 hx hs hu hd hb h
theorem WL.conv8mod {src dst : TypeId} (hx : r.ev x = some (.int k a)) (hs : (P.underlying src).isSome = true) (hu : P.underlying dst = some (.int .u8)) (hd : Nat.blt d n = true)
    (h : WL P ro n w0 ops Q l ((d, .int .u8 (a % 256)) :: r) ds m H) : WL P ro n w0 ops Q (⟨some d, .convert src dst x, ty, pos, after, none⟩ :: l) r ds m H :=
  .conv hx hs hu hd (by
    have : IntKind.u8.wrap a = a % 256 := by simp [IntKind.wrap, IntKind.signed, IntKind.bits]
    rw [this]; exact h)
theorem w_conv8mod {src dst : TypeId} (h : WL P ro n w0 ops Q l ((d, .int .u8 (a % 256)) :: r) ds m H) (hx : r.ev x = some (.int k a) := by exact rfl) (hs : (P.underlying src).isSome = true := by exact rfl) (hu : P.underlying dst = some (.int .u8) := by exact rfl) (hd : Nat.blt d n = true := by exact rfl) : WL P ro n w0 ops Q (⟨some d, .convert src dst x, ty, pos, after, none⟩ :: l) r ds m H := WL.conv8mod hx hs hu hd h
theorem WL.convu64 {src dst : TypeId} (hx : r.ev x = some (.int k a)) (hs : (P.underlying src).isSome = true) (hu : P.underlying dst = some (.int .u64)) (hd : Nat.blt d n = true)
    (hb : 0 ≤ a ∧ a ≤ 18446744073709551615)
    (h : WL P ro n w0 ops Q l ((d, .int .u64 a) :: r) ds m H) : WL P ro n w0 ops Q (⟨some d, .convert src dst x, ty, pos, after, none⟩ :: l) r ds m H :=
  .conv hx hs hu hd (by rw [wrapu64_id hb]; exact h)
theorem w_convu64 {src dst : TypeId} (h : WL P ro n w0 ops Q l ((d, .int .u64 a) :: r) ds m H) (hx : r.ev x = some (.int k a) := by exact rfl) (hs : (P.underlying src).isSome = true := by exact rfl) (hu : P.underlying dst = some (.int .u64) := by exact rfl) (hd : Nat.blt d n = true := by exact rfl) (hb : 0 ≤ a ∧ a ≤ 18446744073709551615 := by omega) : WL P ro n w0 ops Q (⟨some d, .convert src dst x, ty, pos, after, none⟩ :: l) r ds m H := WL.convu64 hx hs hu hd hb h
theorem WL.min2 (hx : r.ev x = some (.int k a)) (hy : r.ev y = some (.int k b)) (hd : Nat.blt d n = true) (h : WL P ro n w0 ops Q l ((d, .int k (min a b)) :: r) ds m H) {ts : Array TypeId} :
    WL P ro n w0 ops Q (⟨some d, .call ⟨.builtin .min, #[x, y], ts⟩, ty, pos, after, none⟩ :: l) r ds m H :=
  .val hd (fun _ h => by cases h) (fun tmps w ho _ => by
    simp only [execOp, resolve, invoke, builtin, Sem.run_bind, Sem.run_pure, Result.andThen_ok, List.map_toArray, List.map_cons, List.map_nil, ho.ev hx, ho.ev hy, Builtin.min_, List.foldlM_cons, List.foldlM_nil, Builtin.min2]
    rw [Int.min_def]
    congr 2
    split <;> split <;> first | rfl | omega) h
theorem w_min2 {ts : Array TypeId} (h : WL P ro n w0 ops Q l ((d, .int k (min a b)) :: r) ds m H) (hx : r.ev x = some (.int k a) := by exact rfl) (hy : r.ev y = some (.int k b) := by exact rfl) (hd : Nat.blt d n = true := by exact rfl) : WL P ro n w0 ops Q (⟨some d, .call ⟨.builtin .min, #[x, y], ts⟩, ty, pos, after, none⟩ :: l) r ds m H := WL.min2 hx hy hd h
theorem WL.max2 (hx : r.ev x = some (.int k a)) (hy : r.ev y = some (.int k b)) (hd : Nat.blt d n = true) (h : WL P ro n w0 ops Q l ((d, .int k (max a b)) :: r) ds m H) {ts : Array TypeId} :
    WL P ro n w0 ops Q (⟨some d, .call ⟨.builtin .max, #[x, y], ts⟩, ty, pos, after, none⟩ :: l) r ds m H :=
  .val hd (fun _ h => by cases h) (fun tmps w ho _ => by
    simp only [execOp, resolve, invoke, builtin, Sem.run_bind, Sem.run_pure, Result.andThen_ok, List.map_toArray, List.map_cons, List.map_nil, ho.ev hx, ho.ev hy, Builtin.max_, List.foldlM_cons, List.foldlM_nil, Builtin.max2]
    have e : (if a < b then b else a) = max a b := by rw [Int.max_def]; split <;> split <;> omega
    rw [← e]) h
theorem w_max2 {ts : Array TypeId} (h : WL P ro n w0 ops Q l ((d, .int k (max a b)) :: r) ds m H) (hx : r.ev x = some (.int k a) := by exact rfl) (hy : r.ev y = some (.int k b) := by exact rfl) (hd : Nat.blt d n = true := by exact rfl) : WL P ro n w0 ops Q (⟨some d, .call ⟨.builtin .max, #[x, y], ts⟩, ty, pos, after, none⟩ :: l) r ds m H := WL.max2 hx hy hd h
end
end
end Go.Eng

/-
  Plain facts on the forms of runes, as Go's own decoding and encoding have them. No condition.
-/
set_option linter.all false
namespace Go.Eng
open Go

/-- a text's byte, as a number; 0 behind its end -/
abbrev nb (l : List UInt8) (k : Nat) : Nat := gb l k
/-- decoding at a text's beginning -/
def dl (l : List UInt8) : Nat × Nat :=
  let cont (k : Nat) : Bool := decide (k < l.length) && nb l k / 64 == 2
  let b0 := nb l 0
  if b0 < 0x80 then (b0, 1)
  else if b0 / 32 == 6 && cont 1 then
    let c := (b0 % 32) * 64 + nb l 1 % 64
    if c ≥ 0x80 then (c, 2) else (0xFFFD, 1)
  else if b0 / 16 == 14 && cont 1 && cont 2 then
    let c := (b0 % 16) * 4096 + (nb l 1 % 64) * 64 + nb l 2 % 64
    if c ≥ 0x800 && Utf8.valid c then (c, 3) else (0xFFFD, 1)
  else if b0 / 8 == 30 && cont 1 && cont 2 && cont 3 then
    let c := (b0 % 8) * 262144 + (nb l 1 % 64) * 4096 + (nb l 2 % 64) * 64 + nb l 3 % 64
    if c ≥ 0x10000 && Utf8.valid c then (c, 4) else (0xFFFD, 1)
  else (0xFFFD, 1)
theorem get!_eq (l : List UInt8) (k : Nat) : ((⟨l.toArray⟩ : ByteArray).get! k).toNat = nb l k := by
  simp only [ByteArray.get!, nb, gb]
  rw [getElem!_def]
  by_cases h : k < l.length
  · simp [List.getElem?_eq_getElem h, List.getD_eq_getElem?_getD]
  · simp [List.getElem?_eq_none (Nat.le_of_not_lt h), List.getD_eq_getElem?_getD]
    rfl
theorem nb_drop (l : List UInt8) (i k : Nat) : nb (l.drop i) k = nb l (i + k) := by
  simp [nb, gb, List.getD_eq_getElem?_getD, List.getElem?_drop]
theorem decode_eq (l : List UInt8) (i : Nat) : Utf8.decode ⟨l.toArray⟩ i = dl (l.drop i) := by
  have hc : ∀ k, (decide (i + k < (⟨l.toArray⟩ : ByteArray).size) : Bool) = decide (k < (l.drop i).length) := by
    intro k; rw [ofNat_toArray]; simp; omega
  simp only [Utf8.decode, dl, get!_eq, nb_drop, hc, Utf8.runeError, Nat.add_zero]
/-- a valid rune's form -/
def fm (c : Nat) : List Nat :=
  if c < 0x80 then [c] else if c < 0x800 then [0xC0 + c / 64, 0x80 + c % 64]
  else if c < 0x10000 then [0xE0 + c / 4096, 0x80 + c / 64 % 64, 0x80 + c % 64]
  else [0xF0 + c / 262144, 0x80 + c / 4096 % 64, 0x80 + c / 64 % 64, 0x80 + c % 64]
/-- the rune, or the one that stands for what is none -/
def rn (r : Int) : Nat := if Utf8.valid r then r.toNat else 0xFFFD
def fmb (c : Nat) : List UInt8 := (fm c).map UInt8.ofNat
def encB (c : Nat) : ByteArray :=
  let b (n : Nat) : UInt8 := UInt8.ofNat n
  if c < 0x80 then ⟨#[b c]⟩
  else if c < 0x800 then ⟨#[b (0xC0 + c / 64), b (0x80 + c % 64)]⟩
  else if c < 0x10000 then ⟨#[b (0xE0 + c / 4096), b (0x80 + c / 64 % 64), b (0x80 + c % 64)]⟩
  else ⟨#[b (0xF0 + c / 262144), b (0x80 + c / 4096 % 64), b (0x80 + c / 64 % 64), b (0x80 + c % 64)]⟩
theorem encB_eq (c : Nat) : (encB c).data.toList = fmb c := by
  unfold encB fmb fm
  simp only []
  split
  · rfl
  · split
    · rfl
    · split <;> rfl
theorem encode_eq (r : Int) : (Utf8.encode r).data.toList = fmb (rn r) := encB_eq (rn r)
def okr (c : Nat) : Prop := c < 0xD800 ∨ (0xE000 ≤ c ∧ c ≤ 0x10FFFF)
theorem valid_iff (r : Int) : Utf8.valid r = true ↔ 0 ≤ r ∧ okr r.toNat := by
  simp [Utf8.valid, okr]; omega
theorem valid_nat (c : Nat) : Utf8.valid (c : Int) = true ↔ okr c := by
  rw [valid_iff]; simp
theorem rn_ok (r : Int) : okr (rn r) := by
  unfold rn
  split
  · rename_i h; exact ((valid_iff r).1 h).2
  · right; decide
theorem rn_nat {c : Nat} (h : okr c) : rn (c : Int) = c := by
  unfold rn; rw [if_pos ((valid_nat c).2 h)]; simp
def wd (c : Nat) : Nat := if c < 0x80 then 1 else if c < 0x800 then 2 else if c < 0x10000 then 3 else 4
theorem fm_length (c : Nat) : (fm c).length = wd c := by
  unfold fm wd; split
  · rfl
  · split
    · rfl
    · split <;> rfl
theorem fmb_length (c : Nat) : (fmb c).length = wd c := by rw [fmb, List.length_map, fm_length]
theorem wd_pos (c : Nat) : 1 ≤ wd c ∧ wd c ≤ 4 := by unfold wd; split <;> (try split) <;> (try split) <;> omega
/-- does a text begin with the form of c? in numbers -/
def begins (l : List UInt8) (c : Nat) : Prop := wd c ≤ l.length ∧ ∀ k, k < wd c → nb l k = (fm c).getD k 0
theorem nb_fmb (c k : Nat) (hc : c ≤ 0x10FFFF) (hk : k < wd c) : nb (fmb c) k = (fm c).getD k 0 := by
  have hl : k < (fm c).length := by rw [fm_length]; exact hk
  simp only [nb, gb, fmb, List.getD_eq_getElem?_getD, List.getElem?_map, List.getElem?_eq_getElem hl, Option.map_some, Option.getD_some]
  rw [UInt8.toNat_ofNat']
  apply Nat.mod_eq_of_lt
  have : ∀ x ∈ fm c, x < 256 := by
    intro x hx
    unfold fm at hx
    split at hx
    · simp at hx; omega
    · split at hx
      · simp at hx; omega
      · split at hx <;> simp at hx <;> omega
  exact this _ (List.getElem_mem hl)
theorem begins_iff (l : List UInt8) (c : Nat) (hc : c ≤ 0x10FFFF) : begins l c ↔ l.take (wd c) = fmb c := by
  constructor
  · rintro ⟨h1, h2⟩
    apply List.ext_getElem?
    intro k
    by_cases hk : k < wd c
    · have e := (h2 k hk).trans (nb_fmb c k hc hk).symm
      have hl : k < l.length := by omega
      have hf : k < (fmb c).length := by rw [fmb_length]; exact hk
      rw [List.getElem?_take, if_pos hk, List.getElem?_eq_getElem hl, List.getElem?_eq_getElem hf]
      simp only [nb, gb, List.getD_eq_getElem?_getD, List.getElem?_eq_getElem hl, List.getElem?_eq_getElem hf, Option.getD_some] at e
      exact congrArg some (UInt8.toNat_inj.1 e)
    · rw [List.getElem?_take, if_neg hk, List.getElem?_eq_none (by rw [fmb_length]; omega)]
  · intro h
    have hl : wd c ≤ l.length := by
      have := congrArg List.length h
      rw [fmb_length, List.length_take] at this; omega
    refine ⟨hl, fun k hk => ?_⟩
    rw [← nb_fmb c k hc hk, ← h]
    simp [nb, gb, List.getD_eq_getElem?_getD, hk]
theorem fm0 (c : Nat) : (fm c).getD 0 0 = if c < 0x80 then c else if c < 0x800 then 0xC0 + c / 64 else if c < 0x10000 then 0xE0 + c / 4096 else 0xF0 + c / 262144 := by
  unfold fm; split
  · rfl
  · split
    · rfl
    · split <;> rfl
/-- a text that begins with the form of c is decoded as c -/
theorem dl_of_begins {l : List UInt8} {c : Nat} (hc : okr c) (h : begins l c) : dl l = (c, wd c) := by
  obtain ⟨h1, h2⟩ := h
  have hle : c ≤ 0x10FFFF := by rcases hc with h | h <;> omega
  unfold wd at h1 h2 ⊢
  unfold fm at h2
  unfold dl
  by_cases a1 : c < 0x80
  · simp only [a1, if_true] at h1 h2 ⊢
    have e0 := h2 0 (by omega)
    simp at e0
    simp [e0, a1]
  · by_cases a2 : c < 0x800
    · simp only [a1, a2, if_true, if_false] at h1 h2 ⊢
      have e0 := h2 0 (by omega); have e1 := h2 1 (by omega)
      simp at e0 e1
      have l1 : 1 < l.length := by omega
      have b0 : ¬ nb l 0 < 128 := by omega
      have b1 : nb l 0 / 32 = 6 := by omega
      have b2 : nb l 1 / 64 = 2 := by omega
      have b3 : nb l 0 % 32 * 64 + nb l 1 % 64 = c := by omega
      simp [b0, b1, b2, b3, l1, show c ≥ 128 by omega]
    · by_cases a3 : c < 0x10000
      · simp only [a1, a2, a3, if_true, if_false] at h1 h2 ⊢
        have e0 := h2 0 (by omega); have e1 := h2 1 (by omega); have e2 := h2 2 (by omega)
        simp at e0 e1 e2
        have l1 : 1 < l.length := by omega
        have l2 : 2 < l.length := by omega
        have b0 : ¬ nb l 0 < 128 := by omega
        have b1 : ¬ nb l 0 / 32 = 6 := by omega
        have b2 : nb l 0 / 16 = 14 := by omega
        have b3 : nb l 1 / 64 = 2 := by omega
        have b4 : nb l 2 / 64 = 2 := by omega
        have b5 : nb l 0 % 16 * 4096 + nb l 1 % 64 * 64 + nb l 2 % 64 = c := by omega
        have b6 := (valid_nat c).2 hc
        simp only [b5]
        simp [b0, b1, b2, b3, b4, l1, l2, b6, show c ≥ 2048 by omega]
      · simp only [a1, a2, a3, if_false] at h1 h2 ⊢
        have e0 := h2 0 (by omega); have e1 := h2 1 (by omega); have e2 := h2 2 (by omega); have e3 := h2 3 (by omega)
        simp at e0 e1 e2 e3
        have l1 : 1 < l.length := by omega
        have l2 : 2 < l.length := by omega
        have l3 : 3 < l.length := by omega
        have b0 : ¬ nb l 0 < 128 := by omega
        have b1 : ¬ nb l 0 / 32 = 6 := by omega
        have b2 : ¬ nb l 0 / 16 = 14 := by omega
        have b2' : nb l 0 / 8 = 30 := by omega
        have b3 : nb l 1 / 64 = 2 := by omega
        have b4 : nb l 2 / 64 = 2 := by omega
        have b4' : nb l 3 / 64 = 2 := by omega
        have b5 : nb l 0 % 8 * 262144 + nb l 1 % 64 * 4096 + nb l 2 % 64 * 64 + nb l 3 % 64 = c := by omega
        have b6 := (valid_nat c).2 hc
        simp only [b5]
        simp [b0, b1, b2, b2', b3, b4, b4', l1, l2, l3, b6, show c ≥ 65536 by omega]
/-- what is decoded is the form that the text begins with; else a broken byte -/
theorem dl_cases (l : List UInt8) (hl : 0 < l.length) : (okr (dl l).1 ∧ (dl l).2 = wd (dl l).1 ∧ begins l (dl l).1) ∨ (dl l = (0xFFFD, 1) ∧ ∀ c, okr c → ¬ begins l c) := by
  by_cases hx : ∃ c, okr c ∧ begins l c
  · obtain ⟨c, hc, hb⟩ := hx
    have := dl_of_begins hc hb
    rw [this]
    exact .inl ⟨hc, rfl, hb⟩
  · have hno : ∀ c, okr c → ¬ begins l c := fun c hc hb => hx ⟨c, hc, hb⟩
    refine .inr ⟨?_, hno⟩
    have hlt : ∀ k, nb l k < 256 := fun k => gb_lt l k
    have g0 := hlt 0; have g1 := hlt 1; have g2 := hlt 2; have g3 := hlt 3
    unfold dl
    simp only []
    by_cases a1 : nb l 0 < 128
    · exfalso
      refine hno (nb l 0) (.inl (by omega)) ⟨by unfold wd; rw [if_pos a1]; omega, fun k hk => ?_⟩
      unfold wd at hk; rw [if_pos a1] at hk
      obtain rfl : k = 0 := by omega
      unfold fm; rw [if_pos a1]; rfl
    rw [if_neg a1]
    split
    · rename_i h
      simp at h
      obtain ⟨h1, h2, h3⟩ := h
      split
      · rename_i hc
        exfalso
        have n1 : ¬ nb l 0 % 32 * 64 + nb l 1 % 64 < 128 := by omega
        have n2 : nb l 0 % 32 * 64 + nb l 1 % 64 < 2048 := by omega
        refine hno (nb l 0 % 32 * 64 + nb l 1 % 64) (.inl (by omega)) ⟨by unfold wd; rw [if_neg n1, if_pos n2]; omega, fun k hk => ?_⟩
        unfold wd at hk; rw [if_neg n1, if_pos n2] at hk
        unfold fm; rw [if_neg n1, if_pos n2]
        rcases (show k = 0 ∨ k = 1 by omega) with rfl | rfl <;> simp <;> omega
      · rfl
    · split
      · rename_i h0 h
        simp at h
        obtain ⟨⟨h1, h2, h3⟩, h4, h5⟩ := h
        split
        · rename_i hc
          exfalso
          simp at hc
          obtain ⟨hc1, hc2⟩ := hc
          have hok := (valid_nat (nb l 0 % 16 * 4096 + nb l 1 % 64 * 64 + nb l 2 % 64)).1 (by simpa using hc2)
          generalize hcc : nb l 0 % 16 * 4096 + nb l 1 % 64 * 64 + nb l 2 % 64 = c at *
          have n1 : ¬ c < 128 := by omega
          have n2 : ¬ c < 2048 := by omega
          have n3 : c < 65536 := by omega
          refine hno c hok ⟨by unfold wd; rw [if_neg n1, if_neg n2, if_pos n3]; omega, fun k hk => ?_⟩
          unfold wd at hk; rw [if_neg n1, if_neg n2, if_pos n3] at hk
          unfold fm; rw [if_neg n1, if_neg n2, if_pos n3]
          rcases (show k = 0 ∨ k = 1 ∨ k = 2 by omega) with rfl | rfl | rfl <;> simp <;> omega
        · rfl
      · split
        · rename_i h
          simp at h
          obtain ⟨⟨⟨h1, h2, h3⟩, h4, h5⟩, h6, h7⟩ := h
          split
          · rename_i hc
            exfalso
            simp at hc
            obtain ⟨hc1, hc2⟩ := hc
            have hok := (valid_nat (nb l 0 % 8 * 262144 + nb l 1 % 64 * 4096 + nb l 2 % 64 * 64 + nb l 3 % 64)).1 (by simpa using hc2)
            generalize hcc : nb l 0 % 8 * 262144 + nb l 1 % 64 * 4096 + nb l 2 % 64 * 64 + nb l 3 % 64 = c at *
            have n1 : ¬ c < 128 := by omega
            have n2 : ¬ c < 2048 := by omega
            have n3 : ¬ c < 65536 := by omega
            have n4 : c < 2097152 := by omega
            refine hno c hok ⟨by unfold wd; rw [if_neg n1, if_neg n2, if_neg n3]; omega, fun k hk => ?_⟩
            unfold wd at hk; rw [if_neg n1, if_neg n2, if_neg n3] at hk
            unfold fm; rw [if_neg n1, if_neg n2, if_neg n3]
            rcases (show k = 0 ∨ k = 1 ∨ k = 2 ∨ k = 3 by omega) with rfl | rfl | rfl | rfl <;> simp <;> omega
          · rfl
        · rfl
end Go.Eng

/-
  A walk's engine, fourth part: the operations on texts, and on memory that is known. No condition.
-/
set_option linter.all false
namespace Go.Eng
open Go Go.RowKit

section
variable {P : Program} {ro : Option Nat} {n : Nat} {w0 : World} {Q : Exit → Act → World → Prop} {r : Env} {ds : List Nat} {m : Mem} {H : SHeap}
  {ops : Array Oper} {l : List Oper} {d : Nat} {ty : TypeId} {pos : String} {after : Array Edge}

/-! ### texts -/
section
variable {x y : Operand} {s u : List UInt8} {t t' : TypeId} {i j : Int}
theorem guard_str (op : BinOp) (tx : TypeId) (vx vy : Operand) : eqGuard op tx vx vy (str s) (str u) = pure () := by
  cases op <;> rfl
theorem WL.str2 {op : BinOp} {v : Value} (hrun : ∀ w, (Op.stringOp op ⟨s.toArray⟩ ⟨u.toArray⟩).run P w = .ok v w) (hno : op ≠ .shl ∧ op ≠ .shr)
    (hx : r.ev x = some (str s)) (hy : r.ev y = some (str u)) (hd : Nat.blt d n = true) (h : WL P ro n w0 ops Q l ((d, v) :: r) ds m H) :
    WL P ro n w0 ops Q (⟨some d, .binOp op t x y t', ty, pos, after, none⟩ :: l) r ds m H :=
  .val hd (fun _ h => by cases h) (fun tmps w ho _ => by
    have hb : (binOp op t (str s) (str u)).run P w = .ok v w := by
      rw [← hrun w]; cases op <;> first | rfl | exact absurd rfl hno.1 | exact absurd rfl hno.2
    simp only [execOp, ho.ev hx, ho.ev hy, guard_str, Sem.run_bind, Sem.run_pure, Result.andThen_ok, hb]) h
theorem WL.cat (hx : r.ev x = some (str s)) (hy : r.ev y = some (str u)) (hd : Nat.blt d n = true) (hb : s.length + u.length ≤ 9223372036854775807)
    (h : WL P ro n w0 ops Q l ((d, str (s ++ u)) :: r) ds m H) : WL P ro n w0 ops Q (⟨some d, .binOp .add t x y t', ty, pos, after, none⟩ :: l) r ds m H := by
  refine .str2 (fun w => ?_) ⟨by decide, by decide⟩ hx hy hd h
  have h1 : ¬ (((⟨s.toArray⟩ : ByteArray).size + (⟨u.toArray⟩ : ByteArray).size : Nat) : Int) > IntKind.i64.max := by
    rw [ofNat_toArray, ofNat_toArray]
    have : IntKind.i64.max = 9223372036854775807 := by decide
    rw [this]; omega
  have h2 : (⟨s.toArray⟩ : ByteArray) ++ ⟨u.toArray⟩ = ⟨(s ++ u).toArray⟩ := by
    apply ByteArray.ext
    simp [ByteArray.data_append]
  unfold Op.stringOp
  simp only [h1, if_false, h2]
  rfl
theorem WL.eqlS (hx : r.ev x = some (str s)) (hy : r.ev y = some (str u)) (hd : Nat.blt d n = true)
    (h : WL P ro n w0 ops Q l ((d, .bool (dcd (s = u))) :: r) ds m H) : WL P ro n w0 ops Q (⟨some d, .binOp .eql t x y t', ty, pos, after, none⟩ :: l) r ds m H :=
  .str2 (fun w => by simp only [Op.stringOp, bytes_toList]; rw [Bool.eq_iff_iff.2 (by simp [dcd_eq] : (s == u) = true ↔ dcd (s = u) = true)]; rfl) ⟨by decide, by decide⟩ hx hy hd h
theorem w_eqlS (h : WL P ro n w0 ops Q l ((d, .bool (dcd (s = u))) :: r) ds m H) (hx : r.ev x = some (str s) := by exact rfl) (hy : r.ev y = some (str u) := by exact rfl) (hd : Nat.blt d n = true := by exact rfl) : WL P ro n w0 ops Q (⟨some d, .binOp .eql t x y t', ty, pos, after, none⟩ :: l) r ds m H := WL.eqlS hx hy hd h
theorem WL.neqS (hx : r.ev x = some (str s)) (hy : r.ev y = some (str u)) (hd : Nat.blt d n = true)
    (h : WL P ro n w0 ops Q l ((d, .bool (!dcd (s = u))) :: r) ds m H) : WL P ro n w0 ops Q (⟨some d, .binOp .neq t x y t', ty, pos, after, none⟩ :: l) r ds m H :=
  .str2 (fun w => by simp only [Op.stringOp, bytes_toList]; rw [Bool.eq_iff_iff.2 (by simp [dcd_eq] : (s == u) = true ↔ dcd (s = u) = true)]; rfl) ⟨by decide, by decide⟩ hx hy hd h
theorem w_neqS (h : WL P ro n w0 ops Q l ((d, .bool (!dcd (s = u))) :: r) ds m H) (hx : r.ev x = some (str s) := by exact rfl) (hy : r.ev y = some (str u) := by exact rfl) (hd : Nat.blt d n = true := by exact rfl) : WL P ro n w0 ops Q (⟨some d, .binOp .neq t x y t', ty, pos, after, none⟩ :: l) r ds m H := WL.neqS hx hy hd h
theorem WL.lssS (hx : r.ev x = some (str s)) (hy : r.ev y = some (str u)) (hd : Nat.blt d n = true)
    (h : WL P ro n w0 ops Q l ((d, .bool (Op.bytesLess s u)) :: r) ds m H) : WL P ro n w0 ops Q (⟨some d, .binOp .lss t x y t', ty, pos, after, none⟩ :: l) r ds m H :=
  .str2 (fun w => by simp only [Op.stringOp, bytes_toList]; rfl) ⟨by decide, by decide⟩ hx hy hd h
theorem w_lssS (h : WL P ro n w0 ops Q l ((d, .bool (Op.bytesLess s u)) :: r) ds m H) (hx : r.ev x = some (str s) := by exact rfl) (hy : r.ev y = some (str u) := by exact rfl) (hd : Nat.blt d n = true := by exact rfl) : WL P ro n w0 ops Q (⟨some d, .binOp .lss t x y t', ty, pos, after, none⟩ :: l) r ds m H := WL.lssS hx hy hd h
theorem WL.lenS {t : TypeId} (hx : r.ev x = some (str s)) (hu : P.underlying t = some .string) (hd : Nat.blt d n = true)
    (h : WL P ro n w0 ops Q l ((d, .int .i64 (s.length : Int)) :: r) ds m H) : WL P ro n w0 ops Q (⟨some d, .call ⟨.builtin .len, #[x], #[t]⟩, ty, pos, after, none⟩ :: l) r ds m H :=
  .val hd (fun _ h => by cases h) (fun tmps w ho _ => by
    simp only [execOp, resolve, invoke, builtin, Builtin.len_, Sem.run_bind, Sem.run_pure, Result.andThen_ok, List.map_toArray, List.map_cons, List.map_nil, ho.ev hx]
    show (Sem.run P ((underlying t).bind _) w).andThen _ = _
    rw [Sem.run_bind', run_underlying hu, Result.andThen_ok]
    rw [← ofNat_toArray s]; rfl) h
theorem w_lenS {t : TypeId} (h : WL P ro n w0 ops Q l ((d, .int .i64 (s.length : Int)) :: r) ds m H) (hx : r.ev x = some (str s) := by exact rfl) (hu : P.underlying t = some .string := by exact rfl) (hd : Nat.blt d n = true := by exact rfl) : WL P ro n w0 ops Q (⟨some d, .call ⟨.builtin .len, #[x], #[t]⟩, ty, pos, after, none⟩ :: l) r ds m H := WL.lenS hx hu hd h
theorem WL.indexS {ki : IntKind} {t : TypeId} {z : Int} {k : Nat} (hx : r.ev x = some (str s)) (hy : r.ev y = some (.int ki z)) (hz : z = (k : Int)) (hu : P.underlying t = some .string) (hd : Nat.blt d n = true) (hi : k < s.length)
    (h : WL P ro n w0 ops Q l ((d, .int .u8 (gb s k : Int)) :: r) ds m H) : WL P ro n w0 ops Q (⟨some d, .index t x y, ty, pos, after, none⟩ :: l) r ds m H :=
  .val hd (fun _ h => by cases h) (fun tmps w ho _ => by
    subst hz
    have h2 : (⟨s.toArray⟩ : ByteArray)[k]? = some s[k] := by
      have hz : k < (⟨s.toArray⟩ : ByteArray).size := by rw [ofNat_toArray]; exact hi
      rw [getElem?_pos (⟨s.toArray⟩ : ByteArray) k hz]
      rfl
    have h3 : gb s k = (s[k]).toNat := by simp [gb, List.getD_eq_getElem?_getD, List.getElem?_eq_getElem hi]
    have h0 : (0 : Int) ≤ (k : Int) := by omega
    simp only [execOp, Instr.index, asIntOf, Sem.run_bind, Sem.run_pure, run_underlying hu, Result.andThen_ok, ho.ev hx, ho.ev hy, h0, if_true, Int.toNat_natCast, h2, h3]) h
theorem w_indexS {ki : IntKind} {t : TypeId} {z : Int} {k : Nat} (h : WL P ro n w0 ops Q l ((d, .int .u8 (gb s k : Int)) :: r) ds m H) (hx : r.ev x = some (str s) := by exact rfl) (hy : r.ev y = some (.int ki z) := by exact rfl) (hz : z = (k : Int) := by (first | with_reducible exact natz _ | with_reducible exact natz0 | with_reducible exact natz1 | with_reducible exact natz2 | with_reducible exact natz3 | with_reducible exact natz4 | with_reducible exact natz8 | (apply natz_add; (· first | with_reducible exact natz _ | with_reducible exact natz0 | with_reducible exact natz1 | with_reducible exact natz2 | with_reducible exact natz3 | with_reducible exact natz4 | with_reducible exact natz8); (· first | with_reducible exact natz _ | with_reducible exact natz0 | with_reducible exact natz1 | with_reducible exact natz2 | with_reducible exact natz3 | with_reducible exact natz4 | with_reducible exact natz8)) | (apply natz_sub; (· first | with_reducible exact natz _ | with_reducible exact natz0 | with_reducible exact natz1 | with_reducible exact natz2 | with_reducible exact natz3 | with_reducible exact natz4 | with_reducible exact natz8); (· first | with_reducible exact natz _ | with_reducible exact natz0 | with_reducible exact natz1 | with_reducible exact natz2 | with_reducible exact natz3 | with_reducible exact natz4 | with_reducible exact natz8); (· omega)) | exact (Int.toNat_of_nonneg (by omega)).symm)) (hu : P.underlying t = some .string := by exact rfl) (hd : Nat.blt d n = true := by exact rfl) (hi : k < s.length := by omega) : WL P ro n w0 ops Q (⟨some d, .index t x y, ty, pos, after, none⟩ :: l) r ds m H := WL.indexS hx hy hz hu hd hi h
theorem extract_bytes (s : List UInt8) (a b : Nat) : (⟨s.toArray⟩ : ByteArray).extract a b = ⟨((s.take b).drop a).toArray⟩ := by
  apply ByteArray.ext
  apply Array.ext'
  simp [ByteArray.data_extract, List.drop_take]
theorem bound_ok {k : IntKind} {y : Nat} (h0 : 0 ≤ i) (h1 : i ≤ y) (c : BoundsCode) (w : World) : (Instr.sliceBound (.int k i) y c).run P w = .ok i.toNat w := by
  simp [Instr.sliceBound, asIntOf, h0, h1]
theorem sliceAt_str {t : TypeId} (hu : P.underlying t = some .string) (lo hi : Option Value) (s : List UInt8) (w : World) :
    (Instr.sliceAt t (str s) lo hi none).run P w = ((Instr.sliceBounds false s.length s.length lo hi none).run P w).andThen fun p w' => .ok (str ((s.take p.2.1).drop p.1)) w' := by
  simp only [Instr.sliceAt, Instr.slice, Sem.run_bind, run_underlying hu, Result.andThen_ok]
  simp only [Option.isSome_none, Bool.false_eq_true, if_false, Sem.run_bind, ofNat_toArray, Sem.run_pure, extract_bytes]
theorem WL.sliceLH {kl kh : IntKind} {lo hi : Operand} (hx : r.ev x = some (str s)) (hl : r.ev lo = some (.int kl i)) (hh : r.ev hi = some (.int kh j)) {a b : Nat} (hia : i = (a : Int)) (hjb : j = (b : Int)) (hu : P.underlying t = some .string) (hd : Nat.blt d n = true)
    (hb : a ≤ b ∧ b ≤ s.length) (h : WL P ro n w0 ops Q l ((d, str ((s.take b).drop a)) :: r) ds m H) :
    WL P ro n w0 ops Q (⟨some d, .slice t x (some lo) (some hi) none, ty, pos, after, none⟩ :: l) r ds m H :=
  .val hd (fun _ h => by cases h) (fun tmps w ho _ => by
    subst hia; subst hjb
    have e1 := bound_ok (P := P) (i := (a : Int)) (k := kl) (y := b) (by omega) (by omega) .sliceB w
    have e2 := bound_ok (P := P) (i := (b : Int)) (k := kh) (y := s.length) (by omega) (by omega) .sliceAlen w
    simp only [execOp, Option.map_some, Option.map_none, Sem.run_bind, ho.ev hx, ho.ev hl, ho.ev hh, sliceAt_str hu, Instr.sliceBounds]
    simp [e1, e2, Result.andThen]) h
theorem w_sliceLH {kl kh : IntKind} {lo hi : Operand} {a b : Nat} (h : WL P ro n w0 ops Q l ((d, str ((s.take b).drop a)) :: r) ds m H) (hx : r.ev x = some (str s) := by exact rfl) (hl : r.ev lo = some (.int kl i) := by exact rfl) (hh : r.ev hi = some (.int kh j) := by exact rfl) (hia : i = (a : Int) := by (first | with_reducible exact natz _ | with_reducible exact natz0 | with_reducible exact natz1 | with_reducible exact natz2 | with_reducible exact natz3 | with_reducible exact natz4 | with_reducible exact natz8 | (apply natz_add; (· first | with_reducible exact natz _ | with_reducible exact natz0 | with_reducible exact natz1 | with_reducible exact natz2 | with_reducible exact natz3 | with_reducible exact natz4 | with_reducible exact natz8); (· first | with_reducible exact natz _ | with_reducible exact natz0 | with_reducible exact natz1 | with_reducible exact natz2 | with_reducible exact natz3 | with_reducible exact natz4 | with_reducible exact natz8)) | (apply natz_sub; (· first | with_reducible exact natz _ | with_reducible exact natz0 | with_reducible exact natz1 | with_reducible exact natz2 | with_reducible exact natz3 | with_reducible exact natz4 | with_reducible exact natz8); (· first | with_reducible exact natz _ | with_reducible exact natz0 | with_reducible exact natz1 | with_reducible exact natz2 | with_reducible exact natz3 | with_reducible exact natz4 | with_reducible exact natz8); (· omega)) | exact (Int.toNat_of_nonneg (by omega)).symm)) (hjb : j = (b : Int) := by (first | with_reducible exact natz _ | with_reducible exact natz0 | with_reducible exact natz1 | with_reducible exact natz2 | with_reducible exact natz3 | with_reducible exact natz4 | with_reducible exact natz8 | (apply natz_add; (· first | with_reducible exact natz _ | with_reducible exact natz0 | with_reducible exact natz1 | with_reducible exact natz2 | with_reducible exact natz3 | with_reducible exact natz4 | with_reducible exact natz8); (· first | with_reducible exact natz _ | with_reducible exact natz0 | with_reducible exact natz1 | with_reducible exact natz2 | with_reducible exact natz3 | with_reducible exact natz4 | with_reducible exact natz8)) | (apply natz_sub; (· first | with_reducible exact natz _ | with_reducible exact natz0 | with_reducible exact natz1 | with_reducible exact natz2 | with_reducible exact natz3 | with_reducible exact natz4 | with_reducible exact natz8); (· first | with_reducible exact natz _ | with_reducible exact natz0 | with_reducible exact natz1 | with_reducible exact natz2 | with_reducible exact natz3 | with_reducible exact natz4 | with_reducible exact natz8); (· omega)) | exact (Int.toNat_of_nonneg (by omega)).symm)) (hu : P.underlying t = some .string := by exact rfl) (hd : Nat.blt d n = true := by exact rfl) (hb : a ≤ b ∧ b ≤ s.length := by omega) : WL P ro n w0 ops Q (⟨some d, .slice t x (some lo) (some hi) none, ty, pos, after, none⟩ :: l) r ds m H := WL.sliceLH hx hl hh hia hjb hu hd hb h
theorem WL.sliceL {kl : IntKind} {lo : Operand} (hx : r.ev x = some (str s)) (hl : r.ev lo = some (.int kl i)) {a : Nat} (hia : i = (a : Int)) (hu : P.underlying t = some .string) (hd : Nat.blt d n = true)
    (hb : a ≤ s.length) (h : WL P ro n w0 ops Q l ((d, str (s.drop a)) :: r) ds m H) :
    WL P ro n w0 ops Q (⟨some d, .slice t x (some lo) none none, ty, pos, after, none⟩ :: l) r ds m H :=
  .val hd (fun _ h => by cases h) (fun tmps w ho _ => by
    subst hia
    have e1 := bound_ok (P := P) (i := (a : Int)) (k := kl) (y := s.length) (by omega) (by omega) .sliceB w
    simp only [execOp, Option.map_some, Option.map_none, Sem.run_bind, ho.ev hx, ho.ev hl, sliceAt_str hu, Instr.sliceBounds]
    simp [e1, Result.andThen]) h
theorem w_sliceL {kl : IntKind} {lo : Operand} {a : Nat} (h : WL P ro n w0 ops Q l ((d, str (s.drop a)) :: r) ds m H) (hx : r.ev x = some (str s) := by exact rfl) (hl : r.ev lo = some (.int kl i) := by exact rfl) (hia : i = (a : Int) := by (first | with_reducible exact natz _ | with_reducible exact natz0 | with_reducible exact natz1 | with_reducible exact natz2 | with_reducible exact natz3 | with_reducible exact natz4 | with_reducible exact natz8 | (apply natz_add; (· first | with_reducible exact natz _ | with_reducible exact natz0 | with_reducible exact natz1 | with_reducible exact natz2 | with_reducible exact natz3 | with_reducible exact natz4 | with_reducible exact natz8); (· first | with_reducible exact natz _ | with_reducible exact natz0 | with_reducible exact natz1 | with_reducible exact natz2 | with_reducible exact natz3 | with_reducible exact natz4 | with_reducible exact natz8)) | (apply natz_sub; (· first | with_reducible exact natz _ | with_reducible exact natz0 | with_reducible exact natz1 | with_reducible exact natz2 | with_reducible exact natz3 | with_reducible exact natz4 | with_reducible exact natz8); (· first | with_reducible exact natz _ | with_reducible exact natz0 | with_reducible exact natz1 | with_reducible exact natz2 | with_reducible exact natz3 | with_reducible exact natz4 | with_reducible exact natz8); (· omega)) | exact (Int.toNat_of_nonneg (by omega)).symm)) (hu : P.underlying t = some .string := by exact rfl) (hd : Nat.blt d n = true := by exact rfl) (hb : a ≤ s.length := by omega) : WL P ro n w0 ops Q (⟨some d, .slice t x (some lo) none none, ty, pos, after, none⟩ :: l) r ds m H := WL.sliceL hx hl hia hu hd hb h
theorem WL.sliceH {kh : IntKind} {hi : Operand} (hx : r.ev x = some (str s)) (hh : r.ev hi = some (.int kh j)) {b : Nat} (hjb : j = (b : Int)) (hu : P.underlying t = some .string) (hd : Nat.blt d n = true)
    (hb : b ≤ s.length) (h : WL P ro n w0 ops Q l ((d, str (s.take b)) :: r) ds m H) :
    WL P ro n w0 ops Q (⟨some d, .slice t x none (some hi) none, ty, pos, after, none⟩ :: l) r ds m H :=
  .val hd (fun _ h => by cases h) (fun tmps w ho _ => by
    subst hjb
    have e2 := bound_ok (P := P) (i := (b : Int)) (k := kh) (y := s.length) (by omega) (by omega) .sliceAlen w
    simp only [execOp, Option.map_some, Option.map_none, Sem.run_bind, ho.ev hx, ho.ev hh, sliceAt_str hu, Instr.sliceBounds]
    simp [e2, Result.andThen]) h
theorem w_sliceH {kh : IntKind} {hi : Operand} {b : Nat} (h : WL P ro n w0 ops Q l ((d, str (s.take b)) :: r) ds m H) (hx : r.ev x = some (str s) := by exact rfl) (hh : r.ev hi = some (.int kh j) := by exact rfl) (hjb : j = (b : Int) := by (first | with_reducible exact natz _ | with_reducible exact natz0 | with_reducible exact natz1 | with_reducible exact natz2 | with_reducible exact natz3 | with_reducible exact natz4 | with_reducible exact natz8 | (apply natz_add; (· first | with_reducible exact natz _ | with_reducible exact natz0 | with_reducible exact natz1 | with_reducible exact natz2 | with_reducible exact natz3 | with_reducible exact natz4 | with_reducible exact natz8); (· first | with_reducible exact natz _ | with_reducible exact natz0 | with_reducible exact natz1 | with_reducible exact natz2 | with_reducible exact natz3 | with_reducible exact natz4 | with_reducible exact natz8)) | (apply natz_sub; (· first | with_reducible exact natz _ | with_reducible exact natz0 | with_reducible exact natz1 | with_reducible exact natz2 | with_reducible exact natz3 | with_reducible exact natz4 | with_reducible exact natz8); (· first | with_reducible exact natz _ | with_reducible exact natz0 | with_reducible exact natz1 | with_reducible exact natz2 | with_reducible exact natz3 | with_reducible exact natz4 | with_reducible exact natz8); (· omega)) | exact (Int.toNat_of_nonneg (by omega)).symm)) (hu : P.underlying t = some .string := by exact rfl) (hd : Nat.blt d n = true := by exact rfl) (hb : b ≤ s.length := by omega) : WL P ro n w0 ops Q (⟨some d, .slice t x none (some hi) none, ty, pos, after, none⟩ :: l) r ds m H := WL.sliceH hx hh hjb hu hd hb h
/-- a rune's form, by Go's own conversion -/
theorem WL.convRS {src dst : TypeId} {k : IntKind} {a : Int} (hx : r.ev x = some (.int k a)) (hs : (P.underlying src).isSome = true) (hu : P.underlying dst = some .string) (hd : Nat.blt d n = true)
    (h : WL P ro n w0 ops Q l ((d, str (Utf8.encode a).data.toList) :: r) ds m H) : WL P ro n w0 ops Q (⟨some d, .convert src dst x, ty, pos, after, none⟩ :: l) r ds m H :=
  .val hd (fun _ h => by cases h) (fun tmps w ho _ => by
    cases hq : P.underlying src with
    | none => simp [hq] at hs
    | some q =>
      simp only [execOp, ho.ev hx, convert, Sem.run_bind, run_underlying hq, run_underlying hu, Result.andThen_ok]
      rfl) h
theorem w_convRS {src dst : TypeId} {k : IntKind} {a : Int} (h : WL P ro n w0 ops Q l ((d, str (Utf8.encode a).data.toList) :: r) ds m H) (hx : r.ev x = some (.int k a) := by exact rfl) (hs : (P.underlying src).isSome = true := by exact rfl) (hu : P.underlying dst = some .string := by exact rfl) (hd : Nat.blt d n = true := by exact rfl) : WL P ro n w0 ops Q (⟨some d, .convert src dst x, ty, pos, after, none⟩ :: l) r ds m H := WL.convRS hx hs hu hd h
end

/-! ### a range over a text -/
section
variable {x : Operand} {s : List UInt8} {t : TypeId}
theorem WL.rangeS (hx : r.ev x = some (str s)) (hu : P.underlying t = some .string) (hd : Nat.blt d n = true)
    (h : ∀ b, WL P ro n w0 ops Q l ((d, .pointer (some ⟨b, 0, none⟩)) :: r) ds m (.blk b (.stringIter ⟨s.toArray⟩ 0) :: H)) :
    WL P ro n w0 ops Q (⟨some d, .range t x, ty, pos, after, none⟩ :: l) r ds m H :=
  .gen (fun v m' H' => ∃ b, v = .pointer (some ⟨b, 0, none⟩) ∧ m' = m ∧ H' = .blk b (.stringIter ⟨s.toArray⟩ 0) :: H) hd (fun _ h => by cases h)
    (fun tmps w ho hs => ⟨_, m, _, w.alloc (.stringIter ⟨s.toArray⟩ 0), by
      simp only [execOp, Instr.range, Sem.run_bind, run_underlying hu, Result.andThen_ok, ho.ev hx, Sem.run_pure, run_newObj_alloc], hs.alloc _, w.heap.size, rfl, rfl, rfl⟩)
    (by rintro _ _ _ ⟨b, rfl, rfl, rfl⟩; exact h b)
theorem w_rangeS (h : ∀ b, WL P ro n w0 ops Q l ((d, .pointer (some ⟨b, 0, none⟩)) :: r) ds m (.blk b (.stringIter ⟨s.toArray⟩ 0) :: H)) (hx : r.ev x = some (str s) := by exact rfl) (hu : P.underlying t = some .string := by exact rfl) (hd : Nat.blt d n = true := by exact rfl) : WL P ro n w0 ops Q (⟨some d, .range t x, ty, pos, after, none⟩ :: l) r ds m H := WL.rangeS hx hu hd h
/-- one item in the place of another -/
inductive Repl (i j : Item) : SHeap → SHeap → Prop
  | here {H : SHeap} : Repl i j (i :: H) (j :: H)
  | there {k : Item} {H H' : SHeap} : Repl i j H H' → Repl i j (k :: H) (k :: H')
theorem Repl.perm {i j : Item} {H H' : SHeap} (h : Repl i j H H') : ∃ H1, List.Perm H (i :: H1) ∧ List.Perm H' (j :: H1) := by
  induction h with
  | here => exact ⟨_, List.Perm.refl _, List.Perm.refl _⟩
  | there _ ih =>
    obtain ⟨H1, h1, h2⟩ := ih
    exact ⟨_ :: H1, (List.Perm.cons _ h1).trans (List.Perm.swap _ _ _), (List.Perm.cons _ h2).trans (List.Perm.swap _ _ _)⟩
theorem Repl.mem {i j : Item} {H H' : SHeap} (h : Repl i j H H') : i ∈ H := by
  obtain ⟨H1, h1, _⟩ := h.perm
  exact h1.mem_iff.2 List.mem_cons_self
/-- one item taken out -/
inductive Out (i : Item) : SHeap → SHeap → Prop
  | here {H : SHeap} : Out i (i :: H) H
  | there {k : Item} {H H' : SHeap} : Out i H H' → Out i (k :: H) (k :: H')
theorem Out.perm {i : Item} {H H' : SHeap} (h : Out i H H') : List.Perm H (i :: H') := by
  induction h with
  | here => exact List.Perm.refl _
  | there _ ih => exact (List.Perm.cons _ ih).trans (List.Perm.swap _ _ _)
theorem Sat.repl {i j : Item} {H H' : SHeap} {w w' : World} (h : Sat w0 m H w) (hr : Repl i j H H') (ho : w'.os = w.os) (ht : w'.tape = w.tape) (hu : w'.output = w.output)
    (hz : w.heap.size ≤ w'.heap.size) (hs : ∀ b, b < w.heap.size → b ∉ i.foot → w'.heap[b]? = w.heap[b]?) (hj : j.holds w')
    (hf : ∀ b ∈ j.foot, b ∈ i.foot ∨ w.heap.size ≤ b) (hn : j.foot.Nodup) : Sat w0 m H' w' := by
  obtain ⟨H1, h1, h2⟩ := hr.perm
  exact ((h.perm h1).turn ho ht hu hz hs hj hf hn).perm h2.symm
theorem Sat.replObj {b : Nat} {o o' : Obj} {H H' : SHeap} {w : World} (h : Sat w0 m H w) (hr : Repl (.blk b o) (.blk b o') H H') : Sat w0 m H' (w.putObj b o') :=
  h.repl hr rfl rfl rfl (by simp) (fun k _ hk => World.putObj_heap_other (by simpa [Item.foot] using hk))
    (World.putObj_heap_same (Array.getElem?_eq_some_iff.1 (h.own _ hr.mem)).1) (fun _ hx => .inl hx) (by simp [Item.foot])
/-- the next rune, and the next place -/
theorem WL.nextS {b k : Nat} {H' : SHeap} (hx : r.ev x = some (.pointer (some ⟨b, 0, none⟩))) (hr : Repl (.blk b (.stringIter ⟨s.toArray⟩ k)) (.blk b (.stringIter ⟨s.toArray⟩ (k + (dl (s.drop k)).2))) H H')
    (hk : k < s.length) (hd : Nat.blt d n = true)
    (h : WL P ro n w0 ops Q l ((d, .tuple #[.bool true, .int .i64 (k : Int), .int .i32 ((dl (s.drop k)).1 : Int)]) :: r) ds m H') :
    WL P ro n w0 ops Q (⟨some d, .next x true, ty, pos, after, none⟩ :: l) r ds m H :=
  .gen (fun v m' H'' => v = .tuple #[.bool true, .int .i64 (k : Int), .int .i32 ((dl (s.drop k)).1 : Int)] ∧ m' = m ∧ H'' = H') hd (fun _ h => by cases h)
    (fun tmps w ho hs => ⟨_, m, H', w.putObj b (.stringIter ⟨s.toArray⟩ (k + (dl (s.drop k)).2)), by
      have hb : w.heap[b]? = some (.stringIter ⟨s.toArray⟩ k) := hs.own _ hr.mem
      have h1 : (getObj b).run P w = .ok (.stringIter ⟨s.toArray⟩ k) w := by simp [getObj, Sem.run, hb]
      have h2 : ∀ o, (setObj b o).run P w = .ok () (w.putObj b o) := fun o => by simp [setObj, Sem.run, hb, World.putObj]
      simp only [execOp, Instr.next, Sem.run_bind, ho.ev hx, h1, Result.andThen_ok, ofNat_toArray, hk, if_true, h2, Sem.run_pure, decode_eq]
      rfl, hs.replObj hr, rfl, rfl, rfl⟩)
    (by rintro _ _ _ ⟨rfl, rfl, rfl⟩; exact h)
theorem w_nextS {b k : Nat} {H' : SHeap} (h : WL P ro n w0 ops Q l ((d, .tuple #[.bool true, .int .i64 (k : Int), .int .i32 ((dl (s.drop k)).1 : Int)]) :: r) ds m H') (hx : r.ev x = some (.pointer (some ⟨b, 0, none⟩)) := by exact rfl) (hr : Repl (.blk b (.stringIter ⟨s.toArray⟩ k)) (.blk b (.stringIter ⟨s.toArray⟩ (k + (dl (s.drop k)).2))) H H' := by (repeat (first | exact Repl.here | apply Repl.there))) (hk : k < s.length := by first | omega | (simp; omega)) (hd : Nat.blt d n = true := by exact rfl) : WL P ro n w0 ops Q (⟨some d, .next x true, ty, pos, after, none⟩ :: l) r ds m H := WL.nextS hx hr hk hd h
theorem WL.nextEnd {b k : Nat} {H' : SHeap} (hx : r.ev x = some (.pointer (some ⟨b, 0, none⟩))) (hr : Out (.blk b (.stringIter ⟨s.toArray⟩ k)) H H')
    (hk : ¬ k < s.length) (hd : Nat.blt d n = true) (h : WL P ro n w0 ops Q l ((d, .tuple #[.bool false]) :: r) ds m H') :
    WL P ro n w0 ops Q (⟨some d, .next x true, ty, pos, after, none⟩ :: l) r ds m H :=
  .gen (fun v m' H'' => v = .tuple #[.bool false] ∧ m' = m ∧ H'' = H') hd (fun _ h => by cases h)
    (fun tmps w ho hs => ⟨_, m, H', w, by
      have hb : w.heap[b]? = some (.stringIter ⟨s.toArray⟩ k) := hs.own _ (hr.perm.mem_iff.2 List.mem_cons_self)
      have h1 : (getObj b).run P w = .ok (.stringIter ⟨s.toArray⟩ k) w := by simp [getObj, Sem.run, hb]
      simp only [execOp, Instr.next, Sem.run_bind, ho.ev hx, h1, Result.andThen_ok, ofNat_toArray, hk, if_false, Sem.run_pure], (hs.perm hr.perm).drop, rfl, rfl, rfl⟩)
    (by rintro _ _ _ ⟨rfl, rfl, rfl⟩; exact h)
theorem w_nextEnd {b k : Nat} {H' : SHeap} (h : WL P ro n w0 ops Q l ((d, .tuple #[.bool false]) :: r) ds m H') (hx : r.ev x = some (.pointer (some ⟨b, 0, none⟩)) := by exact rfl) (hr : Out (.blk b (.stringIter ⟨s.toArray⟩ k)) H H' := by (repeat (first | exact Out.here | apply Out.there))) (hk : ¬ k < s.length := by first | omega | (simp; omega)) (hd : Nat.blt d n = true := by exact rfl) : WL P ro n w0 ops Q (⟨some d, .next x true, ty, pos, after, none⟩ :: l) r ds m H := WL.nextEnd hx hr hk hd h
end

/-! ### calls -/
theorem WL.callF {f : FuncId} {fn : Func} {c : Code} {args : List Operand} {vs : List Value} {ts : Array TypeId} {Post : Value → Mem → SHeap → Prop}
    (hf : P.funcs[f]? = some fn) (hname : (fn.name == "runtime.NumGoroutine") = false) (hb : fn.body = some c)
    (hv : r.evs args = some vs) (hd : Nat.blt d n = true) (hs : Does P f vs.toArray w0 m H Post) (h : ∀ v m' H', Post v m' H' → WL P ro n w0 ops Q l ((d, v) :: r) ds m' H') :
    WL P ro n w0 ops Q (⟨some d, .call ⟨.value (.func f), args.toArray, ts⟩, ty, pos, after, none⟩ :: l) r ds m H := by
  refine .enter (fun d' e => by cases e; simpa [Nat.blt_eq] using hd) (fun _ h => by cases h) (fun tmps w ho _ => ?_) hs h
  have e1 := ho.evs (marks ds) hv
  have h1 : fn.name ≠ "runtime.NumGoroutine" := by simpa using hname
  have h2 : ∀ a : Array Value, (callFunc f a).run P w = .ok (.enter f a) w := fun a => by simp [callFunc, hf, h1, hb]
  simp only [execOp, resolve, Sem.run_bind, List.map_toArray, e1]
  simp [Act.eval, Deferred.ofValue, invoke, h2, Result.andThen]
theorem w_callF {f : FuncId} {fn : Func} {c : Code} {args : List Operand} {vs : List Value} {ts : Array TypeId} {Post : Value → Mem → SHeap → Prop} (hf : P.funcs[f]? = some fn) (h : ∀ v m' H', Post v m' H' → WL P ro n w0 ops Q l ((d, v) :: r) ds m' H') (hname : (fn.name == "runtime.NumGoroutine") = false := by exact rfl) (hb : fn.body = some c := by exact rfl) (hv : r.evs args = some vs := by exact rfl) (hd : Nat.blt d n = true := by exact rfl) (hs : Does P f vs.toArray w0 m H Post) : WL P ro n w0 ops Q (⟨some d, .call ⟨.value (.func f), args.toArray, ts⟩, ty, pos, after, none⟩ :: l) r ds m H := WL.callF hf hname hb hv hd hs h
end
end Go.Eng

