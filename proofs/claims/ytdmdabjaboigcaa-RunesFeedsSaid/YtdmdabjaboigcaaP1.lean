/-
  Parts of a walk, joined: EngA EngB EngC U8 RT RT2 RT3 RT7 RT4 RT8 RT9 RT10. No condition.
-/
import Derived.RangeFuncNested
import Derived.RangeFuncBound
import Derived.RangeFuncCalls
import Derived.RangeFuncLeaves
import Derived.Below
import Derived.TacticsIn
import Derived.KernelRfl
import Derived.Shelf.Abstract
import Derived.Laws.Strings
import Derived.IntWalk
/-
  A walk's engine, first part: what is known of a frame's slots and of the heap, kept apart from the worlds themselves, and the rules for code. No condition.
-/
set_option linter.all false
namespace Go.Eng
open Go Go.RowKit

/-! ### slots -/
abbrev Env := List (Nat × Value)
def Env.get : Env → Nat → Option Value
  | [], _ => none
  | (k, v) :: l, t => bif Nat.beq k t then some v else Env.get l t
structure Env.ok (n : Nat) (r : Env) (tmps : Array Value) : Prop where
  size : tmps.size = n
  at_ : ∀ t v, r.get t = some v → tmps[t]? = some v
def Env.ev (r : Env) : Operand → Option Value
  | .tmp t => r.get t
  | .const v => some v
  | .global g => some (.pointer (some ⟨g, 0, none⟩))
  | .func f => some (.func (.func f) #[] #[])
def Env.evs (r : Env) : List Operand → Option (List Value)
  | [] => some []
  | o :: l => match r.ev o, r.evs l with
    | some v, some vs => some (v :: vs)
    | _, _ => none

theorem Env.ok.ev {n : Nat} {r : Env} {tmps : Array Value} (h : r.ok n tmps) {o : Operand} {v : Value} (he : r.ev o = some v) (ds : List Deferred) : (Act.mk tmps ds).eval o = v := by
  cases o with
  | tmp t =>
    have := h.at_ t v he
    simp [Act.eval, Array.getD_eq_getD_getElem?, this]
  | const x => simpa [Env.ev, Act.eval] using he
  | global g => simpa [Env.ev, Act.eval] using he
  | func f => simpa [Env.ev, Act.eval] using he
theorem Env.ok.evs {n : Nat} {r : Env} {tmps : Array Value} (h : r.ok n tmps) (ds : List Deferred) : ∀ {l : List Operand} {vs : List Value}, r.evs l = some vs → l.map (Act.mk tmps ds).eval = vs
  | [], vs, he => by simpa [Env.evs] using he
  | o :: l, vs, he => by
    simp only [Env.evs] at he
    cases h1 : r.ev o with
    | none => simp [h1] at he
    | some v =>
      cases h2 : Env.evs r l with
      | none => simp [h1, h2] at he
      | some ws =>
        simp [h1, h2] at he
        subst he
        simp [h.ev h1, h.evs ds h2]
theorem Env.ok.put {n : Nat} {r : Env} {tmps : Array Value} (h : r.ok n tmps) {d : Nat} (hd : d < n) (v : Value) : Env.ok n ((d, v) :: r) (tmps.setIfInBounds d v) := by
  refine ⟨by simp [h.size], fun t u ht => ?_⟩
  simp only [Env.get] at ht
  cases hb : Nat.beq d t with
  | true =>
    have e := Nat.eq_of_beq_eq_true hb
    subst e
    simp at ht
    subst ht
    simp [h.size, hd]
  | false =>
    have e := Nat.ne_of_beq_eq_false hb
    simp [hb] at ht
    rw [Array.getElem?_setIfInBounds_ne e]
    exact h.at_ t u ht
/-- r' says no more than r -/
def Env.Sub (r' r : Env) : Prop := ∀ p ∈ r', r.get p.1 = some p.2
theorem Env.Sub.nil {r : Env} : Env.Sub [] r := fun _ h => by cases h
theorem Env.Sub.cons {r r' : Env} {t : Nat} {v : Value} (h : r.get t = some v) (h' : Env.Sub r' r) : Env.Sub ((t, v) :: r') r := by
  intro p hp
  cases hp with
  | head => exact h
  | tail _ hp => exact h' p hp
theorem Env.get_mem {r : Env} : ∀ {t : Nat} {v : Value}, r.get t = some v → (t, v) ∈ r := by
  induction r with
  | nil => intro t v h; simp [Env.get] at h
  | cons p r ih =>
    intro t v h
    obtain ⟨k, u⟩ := p
    simp only [Env.get] at h
    cases hb : Nat.beq k t with
    | true =>
      simp [hb] at h
      have e := Nat.eq_of_beq_eq_true hb
      subst e; subst h
      exact List.mem_cons_self
    | false =>
      simp [hb] at h
      exact List.mem_cons_of_mem _ (ih h)
theorem Env.Sub.ok {n : Nat} {r r' : Env} {tmps : Array Value} (hs : Env.Sub r' r) (h : r.ok n tmps) : r'.ok n tmps :=
  ⟨h.size, fun t v ht => h.at_ t v (hs _ (Env.get_mem ht))⟩

/-! ### the heap -/
abbrev Mem := Nat → Option Obj
/-- what is owned: a block, whole; a slice of one's own that may still grow (nil where a = none) -/
inductive Item where
  | blk (b : Nat) (o : Obj)
  | row (a : Option Addr) (cap : Nat) (T : TypeId) (sz : Nat) (es : List (List Value))
def Item.foot : Item → List Nat
  | .blk b _ => [b]
  | .row (some a) _ _ _ _ => [a.block]
  | .row none _ _ _ _ => []
def Item.holds (w : World) : Item → Prop
  | .blk b o => w.heap[b]? = some o
  | .row none cap _ _ es => es = [] ∧ cap = 0
  | .row (some a) cap T sz es => ∃ arr, ∃ fz : Nat × Nat, a = ⟨a.block, 0, none⟩ ∧ w.heap[a.block]? = some (.cells arr T fz) ∧ arr.size = cap * sz ∧ es.length ≤ cap ∧
      arr.toList.take (es.length * sz) = es.flatten ∧ (∀ e ∈ es, e.length = sz) ∧ (fz.1 = fz.2 ∨ arr.size ≤ fz.1)
abbrev SHeap := List Item
def SHeap.foot (H : SHeap) : List Nat := H.flatMap Item.foot
structure Sat (w0 : World) (m : Mem) (H : SHeap) (w : World) : Prop where
  os : w.os = w0.os
  tape : w.tape = w0.tape
  output : w.output = w0.output
  size : w0.heap.size ≤ w.heap.size
  pers : ∀ b o, m b = some o → w.heap[b]? = some o
  own : ∀ i ∈ H, i.holds w
  sep : (SHeap.foot H).Nodup
  free : ∀ b ∈ SHeap.foot H, m b = none
/-- all that lies in a world -/
def memOf (w : World) : Mem := fun b => w.heap[b]?
theorem Sat.start (w : World) : Sat w (memOf w) [] w :=
  ⟨rfl, rfl, rfl, Nat.le_refl _, fun _ _ h => h, (fun _ h => by cases h), List.nodup_nil, (fun _ h => by cases h)⟩
theorem Sat.below {w w' : World} {H : SHeap} (h : Sat w (memOf w) H w') : Below w.heap.size w w' :=
  ⟨h.os, h.tape, h.output, h.size, fun k hk => by
    have := h.pers k (w.heap[k]) (by simp [memOf, hk])
    rw [this]; simp [hk]⟩
theorem Item.holds_of_same {i : Item} {w w' : World} (h : i.holds w) (hs : ∀ b ∈ i.foot, w'.heap[b]? = w.heap[b]?) : i.holds w' := by
  cases i with
  | blk b o => exact (hs b (by simp [Item.foot])).trans h
  | row a cap T sz es =>
    cases a with
    | none => exact h
    | some a =>
      obtain ⟨arr, fz, h1, h2, h3⟩ := h
      exact ⟨arr, fz, h1, (hs a.block (by simp [Item.foot])).trans h2, h3⟩
theorem Item.foot_lt {i : Item} {w : World} (h : i.holds w) : ∀ b ∈ i.foot, b < w.heap.size := by
  intro b hb
  cases i with
  | blk b' o =>
    simp [Item.foot] at hb
    subst hb
    exact (Array.getElem?_eq_some_iff.1 h).1
  | row a cap T sz es =>
    cases a with
    | none => simp [Item.foot] at hb
    | some a =>
      simp [Item.foot] at hb
      subst hb
      obtain ⟨arr, fz, _, h2, _⟩ := h
      exact (Array.getElem?_eq_some_iff.1 h2).1
theorem Sat.foot_lt {w0 : World} {m : Mem} {H : SHeap} {w : World} (h : Sat w0 m H w) : ∀ b ∈ SHeap.foot H, b < w.heap.size := by
  intro b hb
  obtain ⟨i, hi, hb'⟩ := List.mem_flatMap.1 hb
  exact Item.foot_lt (h.own i hi) b hb'
/-- only what is not owned has turned: what the rest may rely on -/
theorem Sat.keep {w0 : World} {m : Mem} {H : SHeap} {w w' : World} (h : Sat w0 m H w) (ho : w'.os = w.os) (ht : w'.tape = w.tape) (hu : w'.output = w.output)
    (hz : w.heap.size ≤ w'.heap.size) (hs : ∀ b, b < w.heap.size → w'.heap[b]? = w.heap[b]?) : Sat w0 m H w' :=
  ⟨ho.trans h.os, ht.trans h.tape, hu.trans h.output, Nat.le_trans h.size hz,
    fun b o hb => by have := h.pers b o hb; rw [hs b (Array.getElem?_eq_some_iff.1 this).1]; exact this,
    fun i hi => Item.holds_of_same (h.own i hi) (fun b hb => hs b (Item.foot_lt (h.own i hi) b hb)), h.sep, h.free⟩
theorem Sat.below_keep {w0 : World} {m : Mem} {H : SHeap} {w w' : World} (h : Sat w0 m H w) (hb : Below w.heap.size w w') : Sat w0 m H w' :=
  h.keep hb.os hb.tape hb.output hb.size hb.block
theorem Sat.drew {w0 : World} {m : Mem} {H : SHeap} {w : World} (h : Sat w0 m H w) : Sat w0 m H { w with drawn := w.drawn + 1 } :=
  h.keep rfl rfl rfl (Nat.le_refl _) (fun _ _ => rfl)
/-- a new block -/
theorem Sat.alloc {w0 : World} {m : Mem} {H : SHeap} {w : World} (h : Sat w0 m H w) (o : Obj) : Sat w0 m (.blk w.heap.size o :: H) (w.alloc o) := by
  have k : Sat w0 m H (w.alloc o) := h.keep rfl rfl rfl (by simp) (fun b hb => Below.heap_alloc w o b hb)
  refine ⟨k.os, k.tape, k.output, k.size, k.pers, ?_, ?_, ?_⟩
  · intro i hi
    cases hi with
    | head => exact World.alloc_heap_new w o
    | tail _ hi => exact k.own i hi
  · simp only [SHeap.foot, List.flatMap_cons, Item.foot, List.singleton_append, List.nodup_cons]
    exact ⟨fun hb => absurd (h.foot_lt _ hb) (Nat.lt_irrefl _), h.sep⟩
  · intro b hb
    simp only [SHeap.foot, List.flatMap_cons, Item.foot, List.singleton_append, List.mem_cons] at hb
    rcases hb with rfl | hb
    · cases hm : m w.heap.size with
      | none => rfl
      | some o' => exact absurd (Array.getElem?_eq_some_iff.1 (h.pers _ _ hm)).1 (Nat.lt_irrefl _)
    · exact h.free b hb
/-- permutation, and letting go -/
theorem Sat.perm {w0 : World} {m : Mem} {H H' : SHeap} {w : World} (h : Sat w0 m H w) (hp : List.Perm H H') : Sat w0 m H' w := by
  have hf : List.Perm (SHeap.foot H) (SHeap.foot H') := List.Perm.flatMap_right _ hp
  exact ⟨h.os, h.tape, h.output, h.size, h.pers, fun i hi => h.own i (hp.mem_iff.2 hi), (hf.nodup_iff).1 h.sep, fun b hb => h.free b (hf.mem_iff.2 hb)⟩
theorem Sat.drop {w0 : World} {m : Mem} {i : Item} {H : SHeap} {w : World} (h : Sat w0 m (i :: H) w) : Sat w0 m H w := by
  have hs := h.sep
  simp only [SHeap.foot, List.flatMap_cons, List.nodup_append] at hs
  exact ⟨h.os, h.tape, h.output, h.size, h.pers, fun j hj => h.own j (List.mem_cons_of_mem _ hj), hs.2.1,
    fun b hb => h.free b (by simp only [SHeap.foot, List.flatMap_cons, List.mem_append]; exact .inr hb)⟩
/-- an owned block is written: whatever the world has become, the rest lies as it lay -/
theorem Sat.turn {w0 : World} {m : Mem} {i j : Item} {H : SHeap} {w w' : World} (h : Sat w0 m (i :: H) w) (ho : w'.os = w.os) (ht : w'.tape = w.tape) (hu : w'.output = w.output)
    (hz : w.heap.size ≤ w'.heap.size) (hs : ∀ b, b < w.heap.size → b ∉ i.foot → w'.heap[b]? = w.heap[b]?) (hj : j.holds w')
    (hf : ∀ b ∈ j.foot, b ∈ i.foot ∨ w.heap.size ≤ b) (hn : j.foot.Nodup) : Sat w0 m (j :: H) w' := by
  have hsep := h.sep
  simp only [SHeap.foot, List.flatMap_cons, List.nodup_append] at hsep
  have hfoot : ∀ b ∈ SHeap.foot H, b ∉ i.foot := fun b hb hi => hsep.2.2 b hi b hb rfl
  have hd := h.drop
  refine ⟨ho.trans h.os, ht.trans h.tape, hu.trans h.output, Nat.le_trans h.size hz, ?_, ?_, ?_, ?_⟩
  · intro b o hb
    have := h.pers b o hb
    rw [hs b (Array.getElem?_eq_some_iff.1 this).1 ?_]
    · exact this
    · intro hi
      have := h.free b (by simp only [SHeap.foot, List.flatMap_cons, List.mem_append]; exact .inl hi)
      rw [hb] at this; cases this
  · intro x hx
    cases hx with
    | head => exact hj
    | tail _ hx =>
      refine Item.holds_of_same (hd.own x hx) (fun b hb => ?_)
      have hb' : b ∈ SHeap.foot H := List.mem_flatMap.2 ⟨x, hx, hb⟩
      exact hs b (hd.foot_lt b hb') (hfoot b hb')
  · simp only [SHeap.foot, List.flatMap_cons, List.nodup_append]
    refine ⟨hn, hsep.2.1, fun a ha b hb e => ?_⟩
    subst e
    rcases hf a ha with hi | hge
    · exact hfoot a hb hi
    · exact absurd (hd.foot_lt a hb) (by omega)
  · intro b hb
    simp only [SHeap.foot, List.flatMap_cons, List.mem_append] at hb
    rcases hb with hb | hb
    · rcases hf b hb with hi | hge
      · exact h.free b (by simp only [SHeap.foot, List.flatMap_cons, List.mem_append]; exact .inl hi)
      · cases hm : m b with
        | none => rfl
        | some o' => exact absurd (Array.getElem?_eq_some_iff.1 (h.pers _ _ hm)).1 (by omega)
    · exact hd.free b hb
/-- what was owned is let stand for good -/
def Mem.ins (m : Mem) (b : Nat) (o : Obj) : Mem := fun c => if c = b then some o else m c
def Mem.le (m m' : Mem) : Prop := ∀ b o, m b = some o → m' b = some o
theorem Mem.le.refl (m : Mem) : m.le m := fun _ _ h => h
theorem Mem.le.trans {a b c : Mem} (h : a.le b) (k : b.le c) : a.le c := fun x o hx => k x o (h x o hx)
theorem Sat.persist {w0 : World} {m : Mem} {b : Nat} {o : Obj} {H : SHeap} {w : World} (h : Sat w0 m (.blk b o :: H) w) : Sat w0 (m.ins b o) H w ∧ m.le (m.ins b o) := by
  have hd := h.drop
  have hsep := h.sep
  simp only [SHeap.foot, List.flatMap_cons, Item.foot, List.singleton_append, List.nodup_cons] at hsep
  have hfree := h.free b (by simp [SHeap.foot, Item.foot])
  refine ⟨⟨hd.os, hd.tape, hd.output, hd.size, ?_, hd.own, hd.sep, ?_⟩, ?_⟩
  · intro c o' hc
    simp only [Mem.ins] at hc
    split at hc
    · rename_i e; subst e; cases hc; exact h.own _ List.mem_cons_self
    · exact h.pers c o' hc
  · intro c hc
    simp only [Mem.ins]
    split
    · rename_i e; subst e; exact absurd hc hsep.1
    · exact hd.free c hc
  · intro c o' hc
    simp only [Mem.ins]
    split
    · rename_i e; subst e; rw [hfree] at hc; cases hc
    · exact hc
end Go.Eng
namespace Go.Eng
/-! a number that is a natural one -/
theorem natz (a : Nat) : (a : Int) = (a : Int) := rfl
theorem natz_add {x y : Int} {a b : Nat} (h : x = (a : Int)) (h' : y = (b : Int)) : x + y = ((a + b : Nat) : Int) := by omega
theorem natz_sub {x y : Int} {a b : Nat} (h : x = (a : Int)) (h' : y = (b : Int)) (hle : b ≤ a) : x - y = ((a - b : Nat) : Int) := by omega
theorem natz0 : (0 : Int) = ((0 : Nat) : Int) := rfl
theorem natz1 : (1 : Int) = ((1 : Nat) : Int) := rfl
theorem natz2 : (2 : Int) = ((2 : Nat) : Int) := rfl
theorem natz3 : (3 : Int) = ((3 : Nat) : Int) := rfl
theorem natz4 : (4 : Int) = ((4 : Nat) : Int) := rfl
theorem natz8 : (8 : Int) = ((8 : Nat) : Int) := rfl
end Go.Eng

/-
  A walk's engine, second part: what is said of code in a state of slots and heap, and the rules for control. No condition.
-/
set_option linter.all false
namespace Go.Eng
open Go Go.RowKit

/-- everything may be called, at whatever depth; in a round of loop l where ro = some l -/
def FW (ro : Option Nat) : Fence := { Fence.wide with round := ro }
theorem FW_fn (ro : Option Nat) (f : FuncId) : (FW ro).fn f := trivial
theorem FW_depth (ro : Option Nat) : (FW ro).depth.isSome = true → 1 ≤ 0 := fun h => by simp [FW, Fence.wide] at h
/-- a test, kept closed -/
@[irreducible] def dcd (p : Prop) [Decidable p] : Bool := decide p
theorem dcd_eq (p : Prop) [Decidable p] : dcd p = decide p := by unfold dcd; rfl
theorem dcd_true {p : Prop} [Decidable p] (h : p) : dcd p = true := by rw [dcd_eq]; exact decide_eq_true h
theorem dcd_false {p : Prop} [Decidable p] (h : ¬ p) : dcd p = false := by rw [dcd_eq]; exact decide_eq_false h
theorem dcd_iff {p : Prop} [Decidable p] : dcd p = true ↔ p := by rw [dcd_eq]; exact decide_eq_true_iff
def marks (ds : List Nat) : List Deferred := ds.map fun D => { target := .collected D, args := #[] }

section
variable (P : Program) (ro : Option Nat) (n : Nat) (w0 : World)
def WC (c : Code) (Q : Exit → Act → World → Prop) (r : Env) (ds : List Nat) (m : Mem) (H : SHeap) : Prop :=
  ∀ tmps w, r.ok n tmps → Sat w0 m H w → c.wpIn (FW ro) 0 P Q ⟨tmps, marks ds⟩ w
def WL (ops : Array Oper) (Q : Exit → Act → World → Prop) (l : List Oper) (r : Env) (ds : List Nat) (m : Mem) (H : SHeap) : Prop :=
  ∀ tmps w, r.ok n tmps → Sat w0 m H w → wpListIn (FW ro) 0 P ops Q l ⟨tmps, marks ds⟩ w
def WQ (Q : Exit → Act → World → Prop) (e : Exit) (r : Env) (ds : List Nat) (m : Mem) (H : SHeap) : Prop :=
  ∀ tmps w, r.ok n tmps → Sat w0 m H w → Q e ⟨tmps, marks ds⟩ w
/-- a call in such a state: it returns; what it hands back and leaves is said by Post -/
def Does (f : FuncId) (args : Array Value) (w0 : World) (m : Mem) (H : SHeap) (Post : Value → Mem → SHeap → Prop) : Prop :=
  ∀ w, Sat w0 m H w → CallsIn (FW none) 0 P f args w fun e w' => ∃ v m' H', e = .returned v ∧ Post v m' H' ∧ Sat w0 m' H' w'
end

section
variable {P : Program} {ro : Option Nat} {n : Nat} {w0 : World} {Q : Exit → Act → World → Prop} {r : Env} {ds : List Nat} {m : Mem} {H : SHeap}

theorem WC.seq {x y : Code} (h : WC P ro n w0 x (Exit.then (fun a w => y.wpIn (FW ro) 0 P Q a w) Q) r ds m H) : WC P ro n w0 (.seq x y) Q r ds m H :=
  fun tmps w ho hs => wpIn_seq (h tmps w ho hs)
theorem c_seq {x y : Code} (h : WC P ro n w0 x (Exit.then (fun a w => y.wpIn (FW ro) 0 P Q a w) Q) r ds m H) : WC P ro n w0 (.seq x y) Q r ds m H := WC.seq h
theorem WC.block {id : Nat} {c : Code} (h : WC P ro n w0 c (Exit.inBlock id Q) r ds m H) : WC P ro n w0 (.block id c) Q r ds m H :=
  fun tmps w ho hs => wpIn_block (h tmps w ho hs)
theorem c_block {id : Nat} {c : Code} (h : WC P ro n w0 c (Exit.inBlock id Q) r ds m H) : WC P ro n w0 (.block id c) Q r ds m H := WC.block h
theorem WC.ret (h : WQ n w0 Q .ret r ds m H) : WC P ro n w0 .ret Q r ds m H := fun tmps w ho hs => wpIn_ret (h tmps w ho hs)
theorem c_ret (h : WQ n w0 Q .ret r ds m H) : WC P ro n w0 .ret Q r ds m H := WC.ret h
theorem WC.skip (h : WQ n w0 Q .normal r ds m H) : WC P ro n w0 .skip Q r ds m H := fun tmps w ho hs => wpIn_skip (h tmps w ho hs)
theorem c_skip (h : WQ n w0 Q .normal r ds m H) : WC P ro n w0 .skip Q r ds m H := WC.skip h
theorem WC.exit {id : Nat} (h : WQ n w0 Q (.exit id) r ds m H) : WC P ro n w0 (.exit id) Q r ds m H := fun tmps w ho hs => wpIn_exit (h tmps w ho hs)
theorem c_exit {id : Nat} (h : WQ n w0 Q (.exit id) r ds m H) : WC P ro n w0 (.exit id) Q r ds m H := WC.exit h
theorem WC.cond_t {c : Operand} {x y : Code} (hc : r.ev c = some (.bool true)) (h : WC P ro n w0 x Q r ds m H) : WC P ro n w0 (.cond c x y) Q r ds m H :=
  fun tmps w ho hs => wpIn_cond_true (ho.ev hc _) (h tmps w ho hs)
theorem c_cond_t {c : Operand} {x y : Code} (h : WC P ro n w0 x Q r ds m H) (hc : r.ev c = some (.bool true) := by exact rfl) : WC P ro n w0 (.cond c x y) Q r ds m H := WC.cond_t hc h
theorem WC.cond_f {c : Operand} {x y : Code} (hc : r.ev c = some (.bool false)) (h : WC P ro n w0 y Q r ds m H) : WC P ro n w0 (.cond c x y) Q r ds m H :=
  fun tmps w ho hs => wpIn_cond_false (ho.ev hc _) (h tmps w ho hs)
theorem c_cond_f {c : Operand} {x y : Code} (h : WC P ro n w0 y Q r ds m H) (hc : r.ev c = some (.bool false) := by exact rfl) : WC P ro n w0 (.cond c x y) Q r ds m H := WC.cond_f hc h
theorem WC.cond {c : Operand} {x y : Code} {b : Bool} (hc : r.ev c = some (.bool b)) (ht : b = true → WC P ro n w0 x Q r ds m H) (hf : b = false → WC P ro n w0 y Q r ds m H) :
    WC P ro n w0 (.cond c x y) Q r ds m H :=
  fun tmps w ho hs => wpIn_cond_split (ho.ev hc _) (fun e => ht e tmps w ho hs) (fun e => hf e tmps w ho hs)
theorem WC.region {id : Nat} {l : List Oper} (h : WL P ro n w0 l.toArray Q l r ds m H) : WC P ro n w0 (.region id l.toArray false) Q r ds m H :=
  fun tmps w ho hs => wpIn_region_lit (h tmps w ho hs)
theorem c_region {id : Nat} {l : List Oper} (h : WL P ro n w0 l.toArray Q l r ds m H) : WC P ro n w0 (.region id l.toArray false) Q r ds m H := WC.region h
theorem WC.weak {c : Code} {r' : Env} {H' : SHeap} (hr : Env.Sub r' r) (hh : ∀ w, Sat w0 m H w → Sat w0 m H' w) (h : WC P ro n w0 c Q r' ds m H') : WC P ro n w0 c Q r ds m H :=
  fun tmps w ho hs => h tmps w (hr.ok ho) (hh w hs)
theorem WL.weak {ops : Array Oper} {l : List Oper} {r' : Env} {H' : SHeap} (hr : Env.Sub r' r) (hh : ∀ w, Sat w0 m H w → Sat w0 m H' w) (h : WL P ro n w0 ops Q l r' ds m H') : WL P ro n w0 ops Q l r ds m H :=
  fun tmps w ho hs => h tmps w (hr.ok ho) (hh w hs)
theorem WC.pull {c : Code} {i : Item} {H1 : SHeap} (hp : List.Perm H (i :: H1)) (h : WC P ro n w0 c Q r ds m (i :: H1)) : WC P ro n w0 c Q r ds m H :=
  fun tmps w ho hs => h tmps w ho (hs.perm hp)
theorem WC.of_post {c : Code} {Q' : Exit → Act → World → Prop} (h : WC P ro n w0 c Q r ds m H) (hq : ∀ e a w, Q e a w → Q' e a w) : WC P ro n w0 c Q' r ds m H :=
  fun tmps w ho hs => wpIn_mono (h tmps w ho hs) hq

theorem WL.nil {ops : Array Oper} (h : WQ n w0 Q .normal r ds m H) : WL P ro n w0 ops Q [] r ds m H := fun tmps w ho hs => h tmps w ho hs

theorem w_nil {ops : Array Oper} (h : WQ n w0 Q .normal r ds m H) : WL P ro n w0 ops Q [] r ds m H := WL.nil h
theorem WQ.norm {y : Code} (h : WC P ro n w0 y Q r ds m H) : WQ n w0 (Exit.then (fun a w => y.wpIn (FW ro) 0 P Q a w) Q) .normal r ds m H := h
theorem q_norm {y : Code} (h : WC P ro n w0 y Q r ds m H) : WQ n w0 (Exit.then (fun a w => y.wpIn (FW ro) 0 P Q a w) Q) .normal r ds m H := WQ.norm h
theorem WQ.thenRet {K : Act → World → Prop} (h : WQ n w0 Q .ret r ds m H) : WQ n w0 (Exit.then K Q) .ret r ds m H := h
theorem q_thenRet {K : Act → World → Prop} (h : WQ n w0 Q .ret r ds m H) : WQ n w0 (Exit.then K Q) .ret r ds m H := WQ.thenRet h
theorem WQ.thenExit {K : Act → World → Prop} {id : Nat} (h : WQ n w0 Q (.exit id) r ds m H) : WQ n w0 (Exit.then K Q) (.exit id) r ds m H := h
theorem q_thenExit {K : Act → World → Prop} {id : Nat} (h : WQ n w0 Q (.exit id) r ds m H) : WQ n w0 (Exit.then K Q) (.exit id) r ds m H := WQ.thenExit h
theorem WQ.blockNorm {id : Nat} (h : WQ n w0 Q .normal r ds m H) : WQ n w0 (Exit.inBlock id Q) .normal r ds m H := h
theorem q_blockNorm {id : Nat} (h : WQ n w0 Q .normal r ds m H) : WQ n w0 (Exit.inBlock id Q) .normal r ds m H := WQ.blockNorm h
theorem WQ.blockRet {id : Nat} (h : WQ n w0 Q .ret r ds m H) : WQ n w0 (Exit.inBlock id Q) .ret r ds m H := h
theorem q_blockRet {id : Nat} (h : WQ n w0 Q .ret r ds m H) : WQ n w0 (Exit.inBlock id Q) .ret r ds m H := WQ.blockRet h
theorem WQ.blockSame {id : Nat} (h : WQ n w0 Q .normal r ds m H) : WQ n w0 (Exit.inBlock id Q) (.exit id) r ds m H := by
  intro tmps w ho hs
  simp only [Exit.inBlock, if_true]
  exact h tmps w ho hs
theorem q_blockSame {id : Nat} (h : WQ n w0 Q .normal r ds m H) : WQ n w0 (Exit.inBlock id Q) (.exit id) r ds m H := WQ.blockSame h
theorem WQ.blockOther {id id' : Nat} (hne : Nat.beq id' id = false) (h : WQ n w0 Q (.exit id') r ds m H) : WQ n w0 (Exit.inBlock id Q) (.exit id') r ds m H := by
  intro tmps w ho hs
  simp only [Exit.inBlock, if_neg (Nat.ne_of_beq_eq_false hne)]
  exact h tmps w ho hs
theorem q_blockOther {id id' : Nat} (h : WQ n w0 Q (.exit id') r ds m H) (hne : Nat.beq id' id = false := by exact rfl) : WQ n w0 (Exit.inBlock id Q) (.exit id') r ds m H := WQ.blockOther hne h
theorem WQ.weak {e : Exit} {r' : Env} {H' : SHeap} (hr : Env.Sub r' r) (hh : ∀ w, Sat w0 m H w → Sat w0 m H' w) (h : WQ n w0 Q e r' ds m H') : WQ n w0 Q e r ds m H :=
  fun tmps w ho hs => h tmps w (hr.ok ho) (hh w hs)

/-! ### a test that is settled, or split -/
theorem Env.ok.setb {n : Nat} {r : Env} {tmps : Array Value} (h : r.ok n tmps) {d : Nat} {b c : Bool} (hd : r.get d = some (.bool b)) (hb : b = c) : Env.ok n ((d, .bool c) :: r) tmps := by
  refine ⟨h.size, fun t v ht => ?_⟩
  simp only [Env.get] at ht
  cases hq : Nat.beq d t with
  | true =>
    have e := Nat.eq_of_beq_eq_true hq
    subst e; subst hb
    simp at ht
    subst ht
    exact h.at_ _ _ hd
  | false =>
    simp [hq] at ht
    exact h.at_ t v ht
theorem WC.known {c : Code} (d : Nat) {b : Bool} (k : Bool) (hd : r.get d = some (.bool b)) (hb : b = k) (h : WC P ro n w0 c Q ((d, .bool k) :: r) ds m H) : WC P ro n w0 c Q r ds m H :=
  fun tmps w ho hs => h tmps w (ho.setb hd hb) hs
theorem WL.known {ops : Array Oper} {l : List Oper} (d : Nat) {b : Bool} (k : Bool) (hd : r.get d = some (.bool b)) (hb : b = k) (h : WL P ro n w0 ops Q l ((d, .bool k) :: r) ds m H) : WL P ro n w0 ops Q l r ds m H :=
  fun tmps w ho hs => h tmps w (ho.setb hd hb) hs
theorem WL.split {ops : Array Oper} {l : List Oper} (d : Nat) {b : Bool} (hd : r.get d = some (.bool b)) (ht : b = true → WL P ro n w0 ops Q l ((d, .bool true) :: r) ds m H)
    (hf : b = false → WL P ro n w0 ops Q l ((d, .bool false) :: r) ds m H) : WL P ro n w0 ops Q l r ds m H := by
  cases hb : b with
  | true => exact .known d true hd hb (ht hb)
  | false => exact .known d false hd hb (hf hb)
/-- a slot's value under another name -/
theorem WL.rename {ops : Array Oper} {l : List Oper} (d : Nat) {v u : Value} (hd : r.get d = some v) (hv : v = u) (h : WL P ro n w0 ops Q l ((d, u) :: r) ds m H) : WL P ro n w0 ops Q l r ds m H := by
  intro tmps w ho hs
  refine h tmps w ⟨ho.size, fun t x ht => ?_⟩ hs
  simp only [Env.get] at ht
  cases hq : Nat.beq d t with
  | true =>
    have e := Nat.eq_of_beq_eq_true hq
    subst e; subst hv
    simp at ht
    subst ht
    exact ho.at_ _ _ hd
  | false =>
    simp [hq] at ht
    exact ho.at_ t x ht
theorem WC.rename {c : Code} (d : Nat) {v u : Value} (hd : r.get d = some v) (hv : v = u) (h : WC P ro n w0 c Q ((d, u) :: r) ds m H) : WC P ro n w0 c Q r ds m H := by
  subst hv
  intro tmps w ho hs
  refine h tmps w ⟨ho.size, fun t x ht => ?_⟩ hs
  simp only [Env.get] at ht
  cases hq : Nat.beq d t with
  | true =>
    have e := Nat.eq_of_beq_eq_true hq
    subst e
    simp at ht
    subst ht
    exact ho.at_ _ _ hd
  | false =>
    simp [hq] at ht
    exact ho.at_ t x ht

/-! ### guards -/
theorem yielded_of {ops : Array Oper} {j dj : Nat} {tmps : Array Value} (hj : (ops[j]?).bind (·.dst) = some dj) {b : Bool} (hv : tmps[dj]? = some (.bool b)) : yielded ops tmps j = some b := by
  simp [yielded, hj, hv]
theorem WL.on {ops : Array Oper} {l : List Oper} {dst : Option Tmp} {op : Op} {ty : TypeId} {pos : String} {after : Array Edge} {j dj : Nat} {want : Bool}
    (hj : (ops[j]?).bind (·.dst) = some dj) (hv : r.get dj = some (.bool want)) (h : WL P ro n w0 ops Q (⟨dst, op, ty, pos, after, none⟩ :: l) r ds m H) :
    WL P ro n w0 ops Q (⟨dst, op, ty, pos, after, some (j, want)⟩ :: l) r ds m H := by
  intro tmps w ho hs
  have hk := h tmps w ho hs
  unfold wpListIn at hk ⊢
  simp only [Region.wanted, if_true] at hk
  simp only [Region.wanted, yielded_of hj (ho.at_ _ _ hv), BEq.rfl, if_true]
  exact hk
theorem w_on {ops : Array Oper} {l : List Oper} {dst : Option Tmp} {op : Op} {ty : TypeId} {pos : String} {after : Array Edge} {j dj : Nat} {want : Bool} (h : WL P ro n w0 ops Q (⟨dst, op, ty, pos, after, none⟩ :: l) r ds m H) (hj : (ops[j]?).bind (·.dst) = some dj := by exact rfl) (hv : r.get dj = some (.bool want) := by exact rfl) : WL P ro n w0 ops Q (⟨dst, op, ty, pos, after, some (j, want)⟩ :: l) r ds m H := WL.on hj hv h
theorem WL.off {ops : Array Oper} {l : List Oper} {dst : Nat} {op : Op} {ty : TypeId} {pos : String} {after : Array Edge} {j dj : Nat} {want b : Bool}
    (hj : (ops[j]?).bind (·.dst) = some dj) (hv : r.get dj = some (.bool b)) (hb : b = !want) (hd : Nat.blt dst n = true) (h : WL P ro n w0 ops Q l ((dst, undef) :: r) ds m H) :
    WL P ro n w0 ops Q (⟨some dst, op, ty, pos, after, some (j, want)⟩ :: l) r ds m H := by
  subst hb
  intro tmps w ho hs
  unfold wpListIn
  have hw : (some (!want) == some want) = false := by cases want <;> rfl
  simp only [Region.wanted, yielded_of hj (ho.at_ _ _ hv), hw]
  exact ⟨fun f _ => FW_fn ro f, h _ w (ho.put (by simpa [Nat.blt_eq] using hd) undef) hs⟩
theorem w_off {ops : Array Oper} {l : List Oper} {dst : Nat} {op : Op} {ty : TypeId} {pos : String} {after : Array Edge} {j dj : Nat} {want b : Bool} (h : WL P ro n w0 ops Q l ((dst, undef) :: r) ds m H) (hj : (ops[j]?).bind (·.dst) = some dj := by exact rfl) (hv : r.get dj = some (.bool b) := by exact rfl) (hb : b = !want := by exact rfl) (hd : Nat.blt dst n = true := by exact rfl) : WL P ro n w0 ops Q (⟨some dst, op, ty, pos, after, some (j, want)⟩ :: l) r ds m H := WL.off hj hv hb hd h
theorem WL.off' {ops : Array Oper} {l : List Oper} {op : Op} {ty : TypeId} {pos : String} {after : Array Edge} {j dj : Nat} {want b : Bool}
    (hj : (ops[j]?).bind (·.dst) = some dj) (hv : r.get dj = some (.bool b)) (hb : b = !want) (h : WL P ro n w0 ops Q l r ds m H) :
    WL P ro n w0 ops Q (⟨none, op, ty, pos, after, some (j, want)⟩ :: l) r ds m H := by
  subst hb
  intro tmps w ho hs
  unfold wpListIn
  have hw : (some (!want) == some want) = false := by cases want <;> rfl
  simp only [Region.wanted, yielded_of hj (ho.at_ _ _ hv), hw]
  exact ⟨fun f _ => FW_fn ro f, h _ w ho hs⟩
theorem w_off2 {ops : Array Oper} {l : List Oper} {op : Op} {ty : TypeId} {pos : String} {after : Array Edge} {j dj : Nat} {want b : Bool} (h : WL P ro n w0 ops Q l r ds m H) (hj : (ops[j]?).bind (·.dst) = some dj := by exact rfl) (hv : r.get dj = some (.bool b) := by exact rfl) (hb : b = !want := by exact rfl) : WL P ro n w0 ops Q (⟨none, op, ty, pos, after, some (j, want)⟩ :: l) r ds m H := WL.off' hj hv hb h
/-- guarded by an operation that was itself passed over -/
theorem WL.offU {ops : Array Oper} {l : List Oper} {dst : Nat} {op : Op} {ty : TypeId} {pos : String} {after : Array Edge} {j dj : Nat} {want : Bool}
    (hj : (ops[j]?).bind (·.dst) = some dj) (hv : r.get dj = some undef) (hd : Nat.blt dst n = true) (h : WL P ro n w0 ops Q l ((dst, undef) :: r) ds m H) :
    WL P ro n w0 ops Q (⟨some dst, op, ty, pos, after, some (j, want)⟩ :: l) r ds m H := by
  intro tmps w ho hs
  unfold wpListIn
  have hy : yielded ops tmps j = none := by simp [yielded, hj, ho.at_ _ _ hv, undef]
  have hw : ((none : Option Bool) == some want) = false := rfl
  simp only [Region.wanted, hy, hw]
  exact ⟨fun f _ => FW_fn ro f, h _ w (ho.put (by simpa [Nat.blt_eq] using hd) undef) hs⟩

theorem w_offU {ops : Array Oper} {l : List Oper} {dst : Nat} {op : Op} {ty : TypeId} {pos : String} {after : Array Edge} {j dj : Nat} {want : Bool} (h : WL P ro n w0 ops Q l ((dst, undef) :: r) ds m H) (hj : (ops[j]?).bind (·.dst) = some dj := by exact rfl) (hv : r.get dj = some undef := by exact rfl) (hd : Nat.blt dst n = true := by exact rfl) : WL P ro n w0 ops Q (⟨some dst, op, ty, pos, after, some (j, want)⟩ :: l) r ds m H := WL.offU hj hv hd h
/-! ### one operation -/
theorem semAt_exec (ro : Option Nat) (ρ : Operand → Value) (o : Oper) (h : ∀ c, o.op ≠ .defer c) : Oper.semAt ro ρ o = execOp ρ o := by
  cases ro with
  | none => exact Oper.semAt_none ρ o
  | some l => exact Oper.semAt_some l ρ o h
/-- an operation that yields a value -/
theorem WL.gen {ops : Array Oper} {l : List Oper} {d : Nat} {op : Op} {ty : TypeId} {pos : String} {after : Array Edge} (K : Value → Mem → SHeap → Prop)
    (hd : Nat.blt d n = true) (hnd : ∀ c, op ≠ .defer c)
    (hrun : ∀ tmps w, r.ok n tmps → Sat w0 m H w → ∃ v m' H' w', (execOp (Act.mk tmps (marks ds)).eval ⟨some d, op, ty, pos, after, none⟩).run P w = .ok (.value v) w' ∧ Sat w0 m' H' w' ∧ K v m' H')
    (h : ∀ v m' H', K v m' H' → WL P ro n w0 ops Q l ((d, v) :: r) ds m' H') : WL P ro n w0 ops Q (⟨some d, op, ty, pos, after, none⟩ :: l) r ds m H := by
  intro tmps w ho hs
  obtain ⟨v, m', H', w', hr, hs', hK⟩ := hrun tmps w ho hs
  unfold wpListIn
  simp only [Region.wanted, if_true]
  refine ⟨fun f _ => FW_fn ro f, ?_⟩
  rw [semAt_exec (FW ro).round _ _ hnd, hr]
  exact h v m' H' hK _ w' (ho.put (by simpa [Nat.blt_eq] using hd) v) hs'
/-- an operation whose value is known, over a heap that it leaves alone -/
theorem WL.val {ops : Array Oper} {l : List Oper} {d : Nat} {op : Op} {ty : TypeId} {pos : String} {after : Array Edge} {v : Value}
    (hd : Nat.blt d n = true) (hnd : ∀ c, op ≠ .defer c)
    (hrun : ∀ tmps w, r.ok n tmps → Sat w0 m H w → (execOp (Act.mk tmps (marks ds)).eval ⟨some d, op, ty, pos, after, none⟩).run P w = .ok (.value v) w)
    (h : WL P ro n w0 ops Q l ((d, v) :: r) ds m H) : WL P ro n w0 ops Q (⟨some d, op, ty, pos, after, none⟩ :: l) r ds m H :=
  .gen (fun v' m' H' => v' = v ∧ m' = m ∧ H' = H) hd hnd (fun tmps w ho hs => ⟨v, m, H, w, hrun tmps w ho hs, hs, rfl, rfl, rfl⟩) (by rintro _ _ _ ⟨rfl, rfl, rfl⟩; exact h)
/-- an operation that is done for what it does -/
theorem WL.act {ops : Array Oper} {l : List Oper} {dst : Option Nat} {op : Op} {ty : TypeId} {pos : String} {after : Array Edge} (K : Mem → SHeap → Prop)
    (hdst : dst = none) (hnd : ∀ c, op ≠ .defer c)
    (hrun : ∀ tmps w, r.ok n tmps → Sat w0 m H w → ∃ m' H' w', (execOp (Act.mk tmps (marks ds)).eval ⟨dst, op, ty, pos, after, none⟩).run P w = .ok .skip w' ∧ Sat w0 m' H' w' ∧ K m' H')
    (h : ∀ m' H', K m' H' → WL P ro n w0 ops Q l r ds m' H') : WL P ro n w0 ops Q (⟨dst, op, ty, pos, after, none⟩ :: l) r ds m H := by
  subst hdst
  intro tmps w ho hs
  obtain ⟨m', H', w', hr, hs', hK⟩ := hrun tmps w ho hs
  unfold wpListIn
  simp only [Region.wanted, if_true]
  refine ⟨fun f _ => FW_fn ro f, ?_⟩
  rw [semAt_exec (FW ro).round _ _ hnd, hr]
  exact h m' H' hK _ w' ho hs'
/-- a call -/
theorem WL.enter {ops : Array Oper} {l : List Oper} {dst : Option Nat} {op : Op} {ty : TypeId} {pos : String} {after : Array Edge} {f : FuncId} {args : Array Value} {Post : Value → Mem → SHeap → Prop}
    (hd : ∀ d, dst = some d → d < n) (hnd : ∀ c, op ≠ .defer c)
    (hrun : ∀ tmps w, r.ok n tmps → Sat w0 m H w → (execOp (Act.mk tmps (marks ds)).eval ⟨dst, op, ty, pos, after, none⟩).run P w = .ok (.enter f args) w)
    (hs : Does P f args w0 m H Post)
    (h : ∀ v m' H', Post v m' H' → WL P ro n w0 ops Q l ((dst.map fun d => (d, v)).toList ++ r) ds m' H') : WL P ro n w0 ops Q (⟨dst, op, ty, pos, after, none⟩ :: l) r ds m H := by
  intro tmps w ho hsat
  unfold wpListIn
  simp only [Region.wanted, if_true]
  refine ⟨fun f _ => FW_fn ro f, ?_⟩
  rw [semAt_exec (FW ro).round _ _ hnd, hrun tmps w ho hsat]
  refine ⟨FW_depth ro, ?_⟩
  have hc : CallsIn (FW ro) (0 - 1) P f args w _ := hs w hsat
  refine hc.mono ?_
  rintro e w' ⟨v, m', H', rfl, hP, hs'⟩
  cases dst with
  | none => exact h v m' H' hP tmps w' ho hs'
  | some d => exact h v m' H' hP _ w' (ho.put (hd d rfl) v) hs'

/-! ### a loop -/
theorem exists_least (p : Nat → Prop) (h : ∃ k, p k) : ∃ k, p k ∧ ∀ j, p j → k ≤ j := by
  obtain ⟨k, hk⟩ := h
  induction k using Nat.strongRecOn with
  | _ k ih =>
    by_cases hx : ∃ j, j < k ∧ p j
    · obtain ⟨j, hj, hp⟩ := hx
      exact ih j hj hp
    · refine ⟨k, hk, fun j hj => ?_⟩
      rcases Nat.lt_or_ge j k with hlt | hge
      · exact absurd ⟨j, hlt, hj⟩ hx
      · exact hge
open Classical in
noncomputable def least (p : Nat → Prop) : Nat := if h : ∃ k, p k then Classical.choose (exists_least p h) else 0
theorem least_of {p : Nat → Prop} {k : Nat} (h : p k) : p (least p) ∧ least p ≤ k := by
  have hx : ∃ k, p k := ⟨k, h⟩
  simp only [least, dif_pos hx]
  have := Classical.choose_spec (exists_least p hx)
  exact ⟨this.1, this.2 k h⟩
/-- what the end of a round owes -/
def QLoop (n : Nat) (w0 : World) (I : Nat → Env → List Nat → Mem → SHeap → Prop) (j : Nat) (Q : Exit → Act → World → Prop) : Exit → Act → World → Prop :=
  Exit.then (fun a w => ∃ j', j' < j ∧ ∃ r ds m H, I j' r ds m H ∧ r.ok n a.tmps ∧ a.defers = marks ds ∧ Sat w0 m H w) Q
theorem WC.loop {c : Code} (I : Nat → Env → List Nat → Mem → SHeap → Prop) (j : Nat) (h0 : I j r ds m H)
    (round : ∀ j r ds m H, I j r ds m H → WC P ro n w0 c (QLoop n w0 I j Q) r ds m H) : WC P ro n w0 (.loop c) Q r ds m H := by
  intro tmps w ho hs
  let J : Nat → Act → World → Prop := fun j a w => ∃ r ds m H, I j r ds m H ∧ r.ok n a.tmps ∧ a.defers = marks ds ∧ Sat w0 m H w
  refine wpIn_loop (fun a w => ∃ j, J j a w) (fun a w => least fun j => J j a w) ⟨j, r, ds, m, H, h0, ho, rfl, hs⟩ ?_
  rintro a w ⟨j1, hj1⟩
  obtain ⟨hl, _⟩ := least_of (p := fun j => J j a w) hj1
  obtain ⟨r', ds', m', H', hI, hok, hd, hsat⟩ := hl
  have := round _ r' ds' m' H' hI a.tmps w hok hsat
  obtain ⟨tm, df⟩ := a
  simp only at hd
  subst hd
  refine wpIn_mono this ?_
  intro e a2 w2 hq
  cases e with
  | normal =>
    obtain ⟨j2, hlt, hJ⟩ := hq
    exact ⟨⟨j2, hJ⟩, Nat.lt_of_le_of_lt (least_of (p := fun j => J j a2 w2) hJ).2 hlt⟩
  | _ => exact hq
theorem WQ.next {I : Nat → Env → List Nat → Mem → SHeap → Prop} {j : Nat} {r' : Env} {H' : SHeap} (j' : Nat) (hI : I j' r' ds m H') (hlt : j' < j) (hr : Env.Sub r' r) (hh : ∀ w, Sat w0 m H w → Sat w0 m H' w) :
    WQ n w0 (QLoop n w0 I j Q) .normal r ds m H :=
  fun _ w ho hs => ⟨j', hlt, r', ds, m, H', hI, hr.ok ho, rfl, hh w hs⟩
theorem WQ.loopExit {I : Nat → Env → List Nat → Mem → SHeap → Prop} {j id : Nat} (h : WQ n w0 Q (.exit id) r ds m H) : WQ n w0 (QLoop n w0 I j Q) (.exit id) r ds m H := h
theorem q_loopExit {I : Nat → Env → List Nat → Mem → SHeap → Prop} {j id : Nat} (h : WQ n w0 Q (.exit id) r ds m H) : WQ n w0 (QLoop n w0 I j Q) (.exit id) r ds m H := WQ.loopExit h
theorem WQ.loopRet {I : Nat → Env → List Nat → Mem → SHeap → Prop} {j : Nat} (h : WQ n w0 Q .ret r ds m H) : WQ n w0 (QLoop n w0 I j Q) .ret r ds m H := h

theorem q_loopRet {I : Nat → Env → List Nat → Mem → SHeap → Prop} {j : Nat} (h : WQ n w0 Q .ret r ds m H) : WQ n w0 (QLoop n w0 I j Q) .ret r ds m H := WQ.loopRet h
/-! ### a function -/
/-- what a function's end owes -/
def QFun (P : Program) (fn : Func) (w0 : World) (Post : Value → Mem → SHeap → Prop) : Exit → Act → World → Prop :=
  bodyPostM (FW none) 0 P fn fun e w' => ∃ v m' H', e = .returned v ∧ Post v m' H' ∧ Sat w0 m' H' w'
def Env.args : Nat → List Value → Env
  | _, [] => []
  | k, v :: l => (k, v) :: Env.args (k + 1) l
theorem Env.args_get : ∀ (l : List Value) (k t : Nat) (v : Value), (Env.args k l).get t = some v → k ≤ t ∧ l[t - k]? = some v
  | [], k, t, v, h => by simp [Env.args, Env.get] at h
  | u :: l, k, t, v, h => by
    simp only [Env.args, Env.get] at h
    cases hb : Nat.beq k t with
    | true =>
      have e := Nat.eq_of_beq_eq_true hb
      subst e
      simp at h
      simp [h]
    | false =>
      have e := Nat.ne_of_beq_eq_false hb
      simp [hb] at h
      obtain ⟨h1, h2⟩ := Env.args_get l (k + 1) t v h
      refine ⟨by omega, ?_⟩
      rw [show t - k = (t - (k + 1)) + 1 by omega]
      simpa using h2
theorem Does.of_body {f : FuncId} {fn : Func} {c : Code} {args : List Value} {Post : Value → Mem → SHeap → Prop} (hf : P.funcs[f]? = some fn) (hb : fn.body = some c)
    (hn : fn.ntmps = n) (ha : Nat.ble args.length n = true) (h : WC P none n w0 c (QFun P fn w0 Post) (Env.args 0 args) [] m H) : Does P f args.toArray w0 m H Post := by
  intro w hs
  refine callsIn_of_wp_marks hf hb (FW_fn none f) ?_
  refine h _ w ⟨?_, ?_⟩ hs
  · have : args.length ≤ n := by simpa using ha
    simp [hn]; omega
  · intro t v ht
    obtain ⟨_, h2⟩ := Env.args_get args 0 t v ht
    simp only [Nat.sub_zero] at h2
    rw [Array.getElem?_append_left (by simpa using (List.getElem?_eq_some_iff.1 h2).1)]
    simpa using h2
theorem Does.mono {f : FuncId} {args : Array Value} {Post Post' : Value → Mem → SHeap → Prop} (h : Does P f args w0 m H Post) (hp : ∀ v m' H', Post v m' H' → Post' v m' H') : Does P f args w0 m H Post' :=
  fun w hs => (h w hs).mono fun _ _ ⟨v, m', H', he, hP, hs'⟩ => ⟨v, m', H', he, hp _ _ _ hP, hs'⟩
/-- the end of a function's body: no marks are left -/
theorem WQ.fin {fn : Func} {Post : Value → Mem → SHeap → Prop} (v : Value) (hres : ∀ tmps w, r.ok n tmps → Sat w0 m H w → (results fn tmps).run P w = .ok v w) (hp : Post v m H) :
    WQ n w0 (QFun P fn w0 Post) .ret r [] m H :=
  fun tmps w ho hs => ⟨v, hres tmps w ho hs, v, m, H, rfl, hp, hs⟩
theorem q_fin {fn : Func} {Post : Value → Mem → SHeap → Prop} {v : Value} (hp : Post v m H) (hres : ∀ tmps w, r.ok n tmps → Sat w0 m H w → (results fn tmps).run P w = .ok v w := by (first | (apply res_tmp; (· exact rfl); (· exact rfl)) | (apply res_cell; (· exact rfl); (· exact rfl); (· (first | (apply Loads.one; (· exact rfl); (· first | (apply Cell.blk; (· (repeat (first | exact List.Mem.head _ | apply List.Mem.tail))); (· exact rfl)) | (apply Cell.mem; (· assumption); (· exact rfl)))) | (apply Loads.whole; (· exact rfl); (· exact rfl); (· (repeat (first | exact List.Mem.head _ | apply List.Mem.tail))); (· exact rfl)) | (apply Loads.blk; (· exact rfl); (· exact rfl); (· (repeat (first | exact List.Mem.head _ | apply List.Mem.tail))); (· (repeat (first | exact Seg.nil | (apply Seg.cons; (· exact rfl)))))) | (apply Loads.row; (· (repeat (first | exact List.Mem.head _ | apply List.Mem.tail))); (first | (rotate_left; (· exact rfl); rotate_right; (· assumption)) | ((· assumption); (· exact rfl))); (· exact rfl); (· exact rfl); (· exact rfl)) | (apply Loads.row1; (· (repeat (first | exact List.Mem.head _ | apply List.Mem.tail))); (first | (rotate_left; (· exact rfl); rotate_right; (· assumption)) | ((· assumption); (· exact rfl))); (· exact rfl)) | (apply Loads.rowF; (· (repeat (first | exact List.Mem.head _ | apply List.Mem.tail))); (first | (rotate_left; (· exact rfl); rotate_right; (· assumption)) | ((· assumption); (· exact rfl))); (· exact rfl); (· exact rfl)) | (apply Loads.prow; (· assumption); (first | (rotate_left; (· exact rfl); rotate_right; (· assumption)) | ((· assumption); (· exact rfl))); (· exact rfl); (· exact rfl); (· exact rfl)) | (apply Loads.prow1; (· assumption); (first | (rotate_left; (· exact rfl); rotate_right; (· assumption)) | ((· assumption); (· exact rfl))); (· exact rfl)) | (apply Loads.prowF; (· assumption); (first | (rotate_left; (· exact rfl); rotate_right; (· assumption)) | ((· assumption); (· exact rfl))); (· exact rfl); (· exact rfl)) | (apply Loads.rrow; (· assumption); (first | (rotate_left; (· exact rfl); rotate_right; (· assumption)) | ((· assumption); (· exact rfl))); (· exact rfl); (· exact rfl); (· exact rfl)) | (apply Loads.rrow1; (· assumption); (first | (rotate_left; (· exact rfl); rotate_right; (· assumption)) | ((· assumption); (· exact rfl))); (· exact rfl)) | (apply Loads.rrowF; (· assumption); (first | (rotate_left; (· exact rfl); rotate_right; (· assumption)) | ((· assumption); (· exact rfl))); (· exact rfl); (· exact rfl)) | (apply Loads.rowS; (· (repeat (first | exact List.Mem.head _ | apply List.Mem.tail))); (first | (rotate_left; (· exact rfl); rotate_right; (· assumption)) | ((· assumption); (· exact rfl))); (· exact rfl); (· exact rfl); (· (repeat (first | exact Seg.nil | (apply Seg.cons; (· exact rfl))))))))) | (apply res_none; exact rfl) | (apply res_many; (· exact rfl); (· repeat (first | exact ResAll.nil | (apply ResAll.tmp; (· exact rfl)) | (apply ResAll.cell; (· exact rfl); (· (first | (apply Loads.one; (· exact rfl); (· first | (apply Cell.blk; (· (repeat (first | exact List.Mem.head _ | apply List.Mem.tail))); (· exact rfl)) | (apply Cell.mem; (· assumption); (· exact rfl)))) | (apply Loads.whole; (· exact rfl); (· exact rfl); (· (repeat (first | exact List.Mem.head _ | apply List.Mem.tail))); (· exact rfl)) | (apply Loads.blk; (· exact rfl); (· exact rfl); (· (repeat (first | exact List.Mem.head _ | apply List.Mem.tail))); (· (repeat (first | exact Seg.nil | (apply Seg.cons; (· exact rfl)))))) | (apply Loads.row; (· (repeat (first | exact List.Mem.head _ | apply List.Mem.tail))); (first | (rotate_left; (· exact rfl); rotate_right; (· assumption)) | ((· assumption); (· exact rfl))); (· exact rfl); (· exact rfl); (· exact rfl)) | (apply Loads.row1; (· (repeat (first | exact List.Mem.head _ | apply List.Mem.tail))); (first | (rotate_left; (· exact rfl); rotate_right; (· assumption)) | ((· assumption); (· exact rfl))); (· exact rfl)) | (apply Loads.rowF; (· (repeat (first | exact List.Mem.head _ | apply List.Mem.tail))); (first | (rotate_left; (· exact rfl); rotate_right; (· assumption)) | ((· assumption); (· exact rfl))); (· exact rfl); (· exact rfl)) | (apply Loads.prow; (· assumption); (first | (rotate_left; (· exact rfl); rotate_right; (· assumption)) | ((· assumption); (· exact rfl))); (· exact rfl); (· exact rfl); (· exact rfl)) | (apply Loads.prow1; (· assumption); (first | (rotate_left; (· exact rfl); rotate_right; (· assumption)) | ((· assumption); (· exact rfl))); (· exact rfl)) | (apply Loads.prowF; (· assumption); (first | (rotate_left; (· exact rfl); rotate_right; (· assumption)) | ((· assumption); (· exact rfl))); (· exact rfl); (· exact rfl)) | (apply Loads.rrow; (· assumption); (first | (rotate_left; (· exact rfl); rotate_right; (· assumption)) | ((· assumption); (· exact rfl))); (· exact rfl); (· exact rfl); (· exact rfl)) | (apply Loads.rrow1; (· assumption); (first | (rotate_left; (· exact rfl); rotate_right; (· assumption)) | ((· assumption); (· exact rfl))); (· exact rfl)) | (apply Loads.rrowF; (· assumption); (first | (rotate_left; (· exact rfl); rotate_right; (· assumption)) | ((· assumption); (· exact rfl))); (· exact rfl); (· exact rfl)) | (apply Loads.rowS; (· (repeat (first | exact List.Mem.head _ | apply List.Mem.tail))); (first | (rotate_left; (· exact rfl); rotate_right; (· assumption)) | ((· assumption); (· exact rfl))); (· exact rfl); (· exact rfl); (· (repeat (first | exact Seg.nil | (apply Seg.cons; (· exact rfl))))))))))); (· exact rfl)))) : WQ n w0 (QFun P fn w0 Post) .ret r [] m H := WQ.fin v hres hp
theorem WQ.finNorm {fn : Func} {Post : Value → Mem → SHeap → Prop} (v : Value) (hres : ∀ tmps w, r.ok n tmps → Sat w0 m H w → (results fn tmps).run P w = .ok v w) (hp : Post v m H) :
    WQ n w0 (QFun P fn w0 Post) .normal r [] m H :=
  fun tmps w ho hs => ⟨v, hres tmps w ho hs, v, m, H, rfl, hp, hs⟩
theorem q_finNorm {fn : Func} {Post : Value → Mem → SHeap → Prop} {v : Value} (hp : Post v m H) (hres : ∀ tmps w, r.ok n tmps → Sat w0 m H w → (results fn tmps).run P w = .ok v w := by (first | (apply res_tmp; (· exact rfl); (· exact rfl)) | (apply res_cell; (· exact rfl); (· exact rfl); (· (first | (apply Loads.one; (· exact rfl); (· first | (apply Cell.blk; (· (repeat (first | exact List.Mem.head _ | apply List.Mem.tail))); (· exact rfl)) | (apply Cell.mem; (· assumption); (· exact rfl)))) | (apply Loads.whole; (· exact rfl); (· exact rfl); (· (repeat (first | exact List.Mem.head _ | apply List.Mem.tail))); (· exact rfl)) | (apply Loads.blk; (· exact rfl); (· exact rfl); (· (repeat (first | exact List.Mem.head _ | apply List.Mem.tail))); (· (repeat (first | exact Seg.nil | (apply Seg.cons; (· exact rfl)))))) | (apply Loads.row; (· (repeat (first | exact List.Mem.head _ | apply List.Mem.tail))); (first | (rotate_left; (· exact rfl); rotate_right; (· assumption)) | ((· assumption); (· exact rfl))); (· exact rfl); (· exact rfl); (· exact rfl)) | (apply Loads.row1; (· (repeat (first | exact List.Mem.head _ | apply List.Mem.tail))); (first | (rotate_left; (· exact rfl); rotate_right; (· assumption)) | ((· assumption); (· exact rfl))); (· exact rfl)) | (apply Loads.rowF; (· (repeat (first | exact List.Mem.head _ | apply List.Mem.tail))); (first | (rotate_left; (· exact rfl); rotate_right; (· assumption)) | ((· assumption); (· exact rfl))); (· exact rfl); (· exact rfl)) | (apply Loads.prow; (· assumption); (first | (rotate_left; (· exact rfl); rotate_right; (· assumption)) | ((· assumption); (· exact rfl))); (· exact rfl); (· exact rfl); (· exact rfl)) | (apply Loads.prow1; (· assumption); (first | (rotate_left; (· exact rfl); rotate_right; (· assumption)) | ((· assumption); (· exact rfl))); (· exact rfl)) | (apply Loads.prowF; (· assumption); (first | (rotate_left; (· exact rfl); rotate_right; (· assumption)) | ((· assumption); (· exact rfl))); (· exact rfl); (· exact rfl)) | (apply Loads.rrow; (· assumption); (first | (rotate_left; (· exact rfl); rotate_right; (· assumption)) | ((· assumption); (· exact rfl))); (· exact rfl); (· exact rfl); (· exact rfl)) | (apply Loads.rrow1; (· assumption); (first | (rotate_left; (· exact rfl); rotate_right; (· assumption)) | ((· assumption); (· exact rfl))); (· exact rfl)) | (apply Loads.rrowF; (· assumption); (first | (rotate_left; (· exact rfl); rotate_right; (· assumption)) | ((· assumption); (· exact rfl))); (· exact rfl); (· exact rfl)) | (apply Loads.rowS; (· (repeat (first | exact List.Mem.head _ | apply List.Mem.tail))); (first | (rotate_left; (· exact rfl); rotate_right; (· assumption)) | ((· assumption); (· exact rfl))); (· exact rfl); (· exact rfl); (· (repeat (first | exact Seg.nil | (apply Seg.cons; (· exact rfl))))))))) | (apply res_none; exact rfl) | (apply res_many; (· exact rfl); (· repeat (first | exact ResAll.nil | (apply ResAll.tmp; (· exact rfl)) | (apply ResAll.cell; (· exact rfl); (· (first | (apply Loads.one; (· exact rfl); (· first | (apply Cell.blk; (· (repeat (first | exact List.Mem.head _ | apply List.Mem.tail))); (· exact rfl)) | (apply Cell.mem; (· assumption); (· exact rfl)))) | (apply Loads.whole; (· exact rfl); (· exact rfl); (· (repeat (first | exact List.Mem.head _ | apply List.Mem.tail))); (· exact rfl)) | (apply Loads.blk; (· exact rfl); (· exact rfl); (· (repeat (first | exact List.Mem.head _ | apply List.Mem.tail))); (· (repeat (first | exact Seg.nil | (apply Seg.cons; (· exact rfl)))))) | (apply Loads.row; (· (repeat (first | exact List.Mem.head _ | apply List.Mem.tail))); (first | (rotate_left; (· exact rfl); rotate_right; (· assumption)) | ((· assumption); (· exact rfl))); (· exact rfl); (· exact rfl); (· exact rfl)) | (apply Loads.row1; (· (repeat (first | exact List.Mem.head _ | apply List.Mem.tail))); (first | (rotate_left; (· exact rfl); rotate_right; (· assumption)) | ((· assumption); (· exact rfl))); (· exact rfl)) | (apply Loads.rowF; (· (repeat (first | exact List.Mem.head _ | apply List.Mem.tail))); (first | (rotate_left; (· exact rfl); rotate_right; (· assumption)) | ((· assumption); (· exact rfl))); (· exact rfl); (· exact rfl)) | (apply Loads.prow; (· assumption); (first | (rotate_left; (· exact rfl); rotate_right; (· assumption)) | ((· assumption); (· exact rfl))); (· exact rfl); (· exact rfl); (· exact rfl)) | (apply Loads.prow1; (· assumption); (first | (rotate_left; (· exact rfl); rotate_right; (· assumption)) | ((· assumption); (· exact rfl))); (· exact rfl)) | (apply Loads.prowF; (· assumption); (first | (rotate_left; (· exact rfl); rotate_right; (· assumption)) | ((· assumption); (· exact rfl))); (· exact rfl); (· exact rfl)) | (apply Loads.rrow; (· assumption); (first | (rotate_left; (· exact rfl); rotate_right; (· assumption)) | ((· assumption); (· exact rfl))); (· exact rfl); (· exact rfl); (· exact rfl)) | (apply Loads.rrow1; (· assumption); (first | (rotate_left; (· exact rfl); rotate_right; (· assumption)) | ((· assumption); (· exact rfl))); (· exact rfl)) | (apply Loads.rrowF; (· assumption); (first | (rotate_left; (· exact rfl); rotate_right; (· assumption)) | ((· assumption); (· exact rfl))); (· exact rfl); (· exact rfl)) | (apply Loads.rowS; (· (repeat (first | exact List.Mem.head _ | apply List.Mem.tail))); (first | (rotate_left; (· exact rfl); rotate_right; (· assumption)) | ((· assumption); (· exact rfl))); (· exact rfl); (· exact rfl); (· (repeat (first | exact Seg.nil | (apply Seg.cons; (· exact rfl))))))))))); (· exact rfl)))) : WQ n w0 (QFun P fn w0 Post) .normal r [] m H := WQ.finNorm v hres hp
theorem Sat.putObj {b : Nat} {o o' : Obj} {w : World} (h : Sat w0 m (.blk b o :: H) w) : Sat w0 m (.blk b o' :: H) (w.putObj b o') := by
  have hb : w.heap[b]? = some o := h.own _ List.mem_cons_self
  refine h.turn (j := .blk b o') rfl rfl rfl (by simp) (fun k _ hk => World.putObj_heap_other (by simpa [Item.foot] using hk)) (World.putObj_heap_same (Array.getElem?_eq_some_iff.1 hb).1) (fun x hx => .inl hx) (by simp [Item.foot])
theorem WQ.mark {fn : Func} {Post : Value → Mem → SHeap → Prop} {D : Nat} {H1 : SHeap} (hp : List.Perm H (.blk D (.deferred (some [])) :: H1)) (h : WQ n w0 (QFun P fn w0 Post) .ret r ds m H1) :
    WQ n w0 (QFun P fn w0 Post) .ret r (D :: ds) m H := by
  intro tmps w ho hs
  have hs1 := hs.perm hp
  have hD : w.heap[D]? = some (.deferred (some [])) := hs1.own _ List.mem_cons_self
  refine ⟨by simp, .inl ⟨D, w.putObj D (.deferred none), rfl, run_takeDeferred hD, ?_⟩⟩
  exact h tmps _ ho hs1.putObj.drop
theorem WQ.markNorm {fn : Func} {Post : Value → Mem → SHeap → Prop} {D : Nat} {H1 : SHeap} (hp : List.Perm H (.blk D (.deferred (some [])) :: H1)) (h : WQ n w0 (QFun P fn w0 Post) .normal r ds m H1) :
    WQ n w0 (QFun P fn w0 Post) .normal r (D :: ds) m H := by
  intro tmps w ho hs
  have hs1 := hs.perm hp
  have hD : w.heap[D]? = some (.deferred (some [])) := hs1.own _ List.mem_cons_self
  refine ⟨by simp, .inl ⟨D, w.putObj D (.deferred none), rfl, run_takeDeferred hD, ?_⟩⟩
  exact h tmps _ ho hs1.putObj.drop
end
end Go.Eng

/-
  A walk's engine, third part: the operations on numbers, texts and parts of values, each as a rule on what is known of the slots. No condition.
-/
set_option linter.all false
namespace Go.Eng
open Go Go.RowKit

@[reducible] def str (l : List UInt8) : Value := .string ⟨l.toArray⟩
@[reducible] def i64 (x : Int) : Value := .int .i64 x
/-- a text's byte as a number -/
def gb (l : List UInt8) (k : Nat) : Nat := (l.getD k 0).toNat
theorem gb_lt (l : List UInt8) (k : Nat) : gb l k < 256 := (l.getD k 0).toNat_lt

theorem ofNat_toArray (l : List UInt8) : (⟨l.toArray⟩ : ByteArray).size = l.length := by simp [ByteArray.size]
theorem bytes_toList (l : List UInt8) : (⟨l.toArray⟩ : ByteArray).toList = l := by
  simp [ByteArray.toList_eq]

/-! what a type is -/
def aggB (P : Program) (t : TypeId) : Option Bool := (P.underlying t).map fun d => match d with | .struct _ | .array _ _ => true | _ => false
/-- a small number, worked out -/
def lit : Nat → Option Nat
  | 0 => some 0
  | 1 => some 1
  | 2 => some 2
  | 3 => some 3
  | 4 => some 4
  | 5 => some 5
  | 6 => some 6
  | 7 => some 7
  | 8 => some 8
  | 9 => some 9
  | 10 => some 10
  | 11 => some 11
  | 12 => some 12
  | 13 => some 13
  | 14 => some 14
  | 15 => some 15
  | 16 => some 16
  | 17 => some 17
  | 18 => some 18
  | 19 => some 19
  | 20 => some 20
  | 21 => some 21
  | 22 => some 22
  | 23 => some 23
  | 24 => some 24
  | 25 => some 25
  | 26 => some 26
  | 27 => some 27
  | 28 => some 28
  | 29 => some 29
  | 30 => some 30
  | 31 => some 31
  | 32 => some 32
  | 33 => some 33
  | 34 => some 34
  | 35 => some 35
  | 36 => some 36
  | 37 => some 37
  | 38 => some 38
  | 39 => some 39
  | 40 => some 40
  | n => some n
theorem lit_eq (n : Nat) : lit n = some n := by unfold lit; split <;> rfl
def sizeB (P : Program) (t : TypeId) : Option Nat := (P.info? t).bind fun d => lit d.size
def bytesB (P : Program) (t : TypeId) : Option Nat := (P.info? t).bind fun d => lit d.bytes
def zeroB (P : Program) (t : TypeId) : Option Value := (P.info? t).bind (·.zero)
section
variable {P : Program} {t : TypeId}
theorem run_agg {b : Bool} (h : aggB P t = some b) (w : World) : (isAgg t).run P w = .ok b w := by
  unfold aggB at h
  cases hu : P.underlying t with
  | none => simp [hu] at h
  | some d =>
    simp [hu] at h
    subst h
    simp only [isAgg, Sem.run_bind, run_underlying hu, Result.andThen_ok]
    cases d <;> rfl
theorem run_size {s : Nat} (h : sizeB P t = some s) (w : World) : (sizeOf t).run P w = .ok s w := by
  unfold sizeB at h
  cases hu : P.info? t with
  | none => simp [hu] at h
  | some d =>
    simp [hu, lit_eq] at h
    subst h
    simp [sizeOf, typeInfo, Sem.run_bind, hu, Result.andThen, pure]
theorem run_info {s : Nat} (h : bytesB P t = some s) (w : World) : ∃ i, P.info? t = some i ∧ i.bytes = s ∧ (typeInfo t).run P w = .ok i w := by
  unfold bytesB at h
  cases hu : P.info? t with
  | none => simp [hu] at h
  | some d =>
    simp [hu, lit_eq] at h
    exact ⟨d, rfl, h, by simp [typeInfo, Sem.run_bind, hu, Result.andThen, pure]⟩
theorem run_zero {z : Value} (h : zeroB P t = some z) (w : World) : (zeroValue t).run P w = .ok z w := by
  unfold zeroB at h
  cases hu : P.info? t with
  | none => simp [hu] at h
  | some d =>
    simp [hu] at h
    simp [zeroValue, typeInfo, Sem.run_bind, hu, Result.andThen, pure, h]
end

section
variable {P : Program} {ro : Option Nat} {n : Nat} {w0 : World} {Q : Exit → Act → World → Prop} {r : Env} {ds : List Nat} {m : Mem} {H : SHeap}
  {ops : Array Oper} {l : List Oper} {d : Nat} {ty : TypeId} {pos : String} {after : Array Edge}

theorem WL.move {x : Operand} {v : Value} (hx : r.ev x = some v) (hd : Nat.blt d n = true) (h : WL P ro n w0 ops Q l ((d, v) :: r) ds m H) :
    WL P ro n w0 ops Q (⟨some d, .move x, ty, pos, after, none⟩ :: l) r ds m H :=
  .val hd (fun _ h => by cases h) (fun tmps w ho _ => by simp [execOp, ho.ev hx]) h
theorem w_move {x : Operand} {v : Value} (h : WL P ro n w0 ops Q l ((d, v) :: r) ds m H) (hx : r.ev x = some v := by exact rfl) (hd : Nat.blt d n = true := by exact rfl) : WL P ro n w0 ops Q (⟨some d, .move x, ty, pos, after, none⟩ :: l) r ds m H := WL.move hx hd h
theorem WL.assign {x : Operand} {v : Value} (hx : r.ev x = some v) (hd : Nat.blt d n = true) (h : WL P ro n w0 ops Q l ((d, v) :: r) ds m H) :
    WL P ro n w0 ops Q (⟨some d, .assign x, ty, pos, after, none⟩ :: l) r ds m H :=
  .val hd (fun _ h => by cases h) (fun tmps w ho _ => by simp [execOp, ho.ev hx]) h
theorem w_assign {x : Operand} {v : Value} (h : WL P ro n w0 ops Q l ((d, v) :: r) ds m H) (hx : r.ev x = some v := by exact rfl) (hd : Nat.blt d n = true := by exact rfl) : WL P ro n w0 ops Q (⟨some d, .assign x, ty, pos, after, none⟩ :: l) r ds m H := WL.assign hx hd h
theorem WL.pick_t {c x y : Operand} {v : Value} (hc : r.ev c = some (.bool true)) (hx : r.ev x = some v) (hd : Nat.blt d n = true) (h : WL P ro n w0 ops Q l ((d, v) :: r) ds m H) :
    WL P ro n w0 ops Q (⟨some d, .pick c x y, ty, pos, after, none⟩ :: l) r ds m H :=
  .val hd (fun _ h => by cases h) (fun tmps w ho _ => by simp [execOp, ho.ev hx, ho.ev hc, asBool]) h
theorem w_pick_t {c x y : Operand} {v : Value} (h : WL P ro n w0 ops Q l ((d, v) :: r) ds m H) (hc : r.ev c = some (.bool true) := by exact rfl) (hx : r.ev x = some v := by exact rfl) (hd : Nat.blt d n = true := by exact rfl) : WL P ro n w0 ops Q (⟨some d, .pick c x y, ty, pos, after, none⟩ :: l) r ds m H := WL.pick_t hc hx hd h
theorem WL.pick_f {c x y : Operand} {v : Value} (hc : r.ev c = some (.bool false)) (hx : r.ev y = some v) (hd : Nat.blt d n = true) (h : WL P ro n w0 ops Q l ((d, v) :: r) ds m H) :
    WL P ro n w0 ops Q (⟨some d, .pick c x y, ty, pos, after, none⟩ :: l) r ds m H :=
  .val hd (fun _ h => by cases h) (fun tmps w ho _ => by simp [execOp, ho.ev hx, ho.ev hc, asBool]) h
theorem w_pick_f {c x y : Operand} {v : Value} (h : WL P ro n w0 ops Q l ((d, v) :: r) ds m H) (hc : r.ev c = some (.bool false) := by exact rfl) (hx : r.ev y = some v := by exact rfl) (hd : Nat.blt d n = true := by exact rfl) : WL P ro n w0 ops Q (⟨some d, .pick c x y, ty, pos, after, none⟩ :: l) r ds m H := WL.pick_f hc hx hd h
theorem WL.makeFunc {fn : Fn} {first captured : List Operand} {fv cv : List Value} (h1 : r.evs first = some fv) (h2 : r.evs captured = some cv) (hd : Nat.blt d n = true)
    (h : WL P ro n w0 ops Q l ((d, .func fn fv.toArray cv.toArray) :: r) ds m H) :
    WL P ro n w0 ops Q (⟨some d, .makeFunc fn first.toArray captured.toArray, ty, pos, after, none⟩ :: l) r ds m H :=
  .val hd (fun _ h => by cases h) (fun tmps w ho _ => by
    have e1 := ho.evs (marks ds) h1
    have e2 := ho.evs (marks ds) h2
    simp [execOp, Instr.makeFunc, e1, e2]) h
theorem w_makeFunc {fn : Fn} {first captured : List Operand} {fv cv : List Value} (h : WL P ro n w0 ops Q l ((d, .func fn fv.toArray cv.toArray) :: r) ds m H) (h1 : r.evs first = some fv := by exact rfl) (h2 : r.evs captured = some cv := by exact rfl) (hd : Nat.blt d n = true := by exact rfl) : WL P ro n w0 ops Q (⟨some d, .makeFunc fn first.toArray captured.toArray, ty, pos, after, none⟩ :: l) r ds m H := WL.makeFunc h1 h2 hd h
theorem WL.makeIface {t : TypeId} {x : Operand} {v : Value} (ht : (P.underlying t).any (fun d => match d with | .interface _ => false | _ => true) = true) (hx : r.ev x = some v) (hd : Nat.blt d n = true)
    (h : WL P ro n w0 ops Q l ((d, .iface t v) :: r) ds m H) : WL P ro n w0 ops Q (⟨some d, .makeInterface t x, ty, pos, after, none⟩ :: l) r ds m H :=
  .val hd (fun _ h => by cases h) (fun tmps w ho _ => by
    cases hu : P.underlying t with
    | none => simp [hu] at ht
    | some q =>
      simp only [execOp, Instr.makeInterface, Sem.run_bind, run_underlying hu, Result.andThen_ok, ho.ev hx]
      cases q <;> simp_all) h
theorem w_makeIface {t : TypeId} {x : Operand} {v : Value} (h : WL P ro n w0 ops Q l ((d, .iface t v) :: r) ds m H) (ht : (P.underlying t).any (fun d => match d with | .interface _ => false | _ => true) = true := by exact rfl) (hx : r.ev x = some v := by exact rfl) (hd : Nat.blt d n = true := by exact rfl) : WL P ro n w0 ops Q (⟨some d, .makeInterface t x, ty, pos, after, none⟩ :: l) r ds m H := WL.makeIface ht hx hd h
theorem WL.nilCheck {x : Operand} {a : Addr} (hx : r.ev x = some (.pointer (some a))) (hd : Nat.blt d n = true)
    (h : WL P ro n w0 ops Q l ((d, .pointer (some a)) :: r) ds m H) : WL P ro n w0 ops Q (⟨some d, .nilCheck x, ty, pos, after, none⟩ :: l) r ds m H :=
  .val hd (fun _ h => by cases h) (fun tmps w ho _ => by simp [execOp, ho.ev hx]) h
theorem w_nilCheck {x : Operand} {a : Addr} (h : WL P ro n w0 ops Q l ((d, .pointer (some a)) :: r) ds m H) (hx : r.ev x = some (.pointer (some a)) := by exact rfl) (hd : Nat.blt d n = true := by exact rfl) : WL P ro n w0 ops Q (⟨some d, .nilCheck x, ty, pos, after, none⟩ :: l) r ds m H := WL.nilCheck hx hd h
theorem WL.nilCheckFunc {x : Operand} {f : FuncId} {a b : Array Value} (hx : r.ev x = some (.func (.func f) a b)) (hd : Nat.blt d n = true)
    (h : WL P ro n w0 ops Q l ((d, .func (.func f) a b) :: r) ds m H) : WL P ro n w0 ops Q (⟨some d, .nilCheck x, ty, pos, after, none⟩ :: l) r ds m H :=
  .val hd (fun _ h => by cases h) (fun tmps w ho _ => by simp [execOp, ho.ev hx]) h
theorem w_nilCheckFunc {x : Operand} {f : FuncId} {a b : Array Value} (h : WL P ro n w0 ops Q l ((d, .func (.func f) a b) :: r) ds m H) (hx : r.ev x = some (.func (.func f) a b) := by exact rfl) (hd : Nat.blt d n = true := by exact rfl) : WL P ro n w0 ops Q (⟨some d, .nilCheck x, ty, pos, after, none⟩ :: l) r ds m H := WL.nilCheckFunc hx hd h
theorem WL.extract {x : Operand} {vs : List Value} {i : Nat} {v : Value} (hx : r.ev x = some (.tuple vs.toArray)) (hv : vs[i]? = some v) (hd : Nat.blt d n = true)
    (h : WL P ro n w0 ops Q l ((d, v) :: r) ds m H) : WL P ro n w0 ops Q (⟨some d, .extract x i, ty, pos, after, none⟩ :: l) r ds m H :=
  .val hd (fun _ h => by cases h) (fun tmps w ho _ => by simp [execOp, Instr.extract, ho.ev hx, hv]) h

theorem w_extract {x : Operand} {vs : List Value} {i : Nat} {v : Value} (h : WL P ro n w0 ops Q l ((d, v) :: r) ds m H) (hx : r.ev x = some (.tuple vs.toArray) := by exact rfl) (hv : vs[i]? = some v := by exact rfl) (hd : Nat.blt d n = true := by exact rfl) : WL P ro n w0 ops Q (⟨some d, .extract x i, ty, pos, after, none⟩ :: l) r ds m H := WL.extract hx hv hd h
/-! ### numbers -/
section
variable {k : IntKind} {x y : Operand} {a b : Int} {t t' : TypeId}
theorem WL.int2 {op : BinOp} {v : Value} (hop : ∀ tx vx vy, eqGuard op tx vx vy (.int k a) (.int k b) = pure ()) (hrun : ∀ w, (binOp op t (.int k a) (.int k b)).run P w = .ok v w)
    (hx : r.ev x = some (.int k a)) (hy : r.ev y = some (.int k b)) (hd : Nat.blt d n = true) (h : WL P ro n w0 ops Q l ((d, v) :: r) ds m H) :
    WL P ro n w0 ops Q (⟨some d, .binOp op t x y t', ty, pos, after, none⟩ :: l) r ds m H :=
  .val hd (fun _ h => by cases h) (fun tmps w ho _ => by
    simp only [execOp, ho.ev hx, ho.ev hy, hop, Sem.run_bind, Sem.run_pure, Result.andThen_ok, hrun]) h
theorem guard_int (op : BinOp) (tx : TypeId) (vx vy : Operand) (k k' : IntKind) (a b : Int) : eqGuard op tx vx vy (.int k a) (.int k' b) = pure () := by
  cases op <;> rfl
theorem WL.add (hx : r.ev x = some (.int k a)) (hy : r.ev y = some (.int k b)) (hd : Nat.blt d n = true) (h : WL P ro n w0 ops Q l ((d, .int k (k.wrap (a + b))) :: r) ds m H) :
    WL P ro n w0 ops Q (⟨some d, .binOp .add t x y t', ty, pos, after, none⟩ :: l) r ds m H :=
  .int2 (fun _ _ _ => guard_int _ _ _ _ _ _ _ _) (fun w => by simp [binOp, Op.intArith]) hx hy hd h
theorem WL.sub (hx : r.ev x = some (.int k a)) (hy : r.ev y = some (.int k b)) (hd : Nat.blt d n = true) (h : WL P ro n w0 ops Q l ((d, .int k (k.wrap (a - b))) :: r) ds m H) :
    WL P ro n w0 ops Q (⟨some d, .binOp .sub t x y t', ty, pos, after, none⟩ :: l) r ds m H :=
  .int2 (fun _ _ _ => guard_int _ _ _ _ _ _ _ _) (fun w => by simp [binOp, Op.intArith]) hx hy hd h
theorem WL.mul (hx : r.ev x = some (.int k a)) (hy : r.ev y = some (.int k b)) (hd : Nat.blt d n = true) (h : WL P ro n w0 ops Q l ((d, .int k (k.wrap (a * b))) :: r) ds m H) :
    WL P ro n w0 ops Q (⟨some d, .binOp .mul t x y t', ty, pos, after, none⟩ :: l) r ds m H :=
  .int2 (fun _ _ _ => guard_int _ _ _ _ _ _ _ _) (fun w => by simp [binOp, Op.intArith]) hx hy hd h
theorem wrap64_id {e : Int} (h : -9223372036854775808 ≤ e ∧ e ≤ 9223372036854775807) : IntKind.i64.wrap e = e := by
  rw [IntKind.wrap_i64]; omega
theorem wrap32_id {e : Int} (h : -2147483648 ≤ e ∧ e ≤ 2147483647) : IntKind.i32.wrap e = e := by
  rw [IntKind.wrap_i32]; omega
theorem wrapu8_id {e : Int} (h : 0 ≤ e ∧ e ≤ 255) : IntKind.u8.wrap e = e := by
  simp [IntKind.wrap, IntKind.signed, IntKind.bits]; omega
theorem wrapu64_id {e : Int} (h : 0 ≤ e ∧ e ≤ 18446744073709551615) : IntKind.u64.wrap e = e := by
  simp [IntKind.wrap, IntKind.signed, IntKind.bits]; omega
theorem wrapu32_id {e : Int} (h : 0 ≤ e ∧ e ≤ 4294967295) : IntKind.u32.wrap e = e := by
  simp [IntKind.wrap, IntKind.signed, IntKind.bits]; omega
theorem WL.add64 (hx : r.ev x = some (.int .i64 a)) (hy : r.ev y = some (.int .i64 b)) (hd : Nat.blt d n = true) (hb : -9223372036854775808 ≤ a + b ∧ a + b ≤ 9223372036854775807)
    (h : WL P ro n w0 ops Q l ((d, .int .i64 (a + b)) :: r) ds m H) : WL P ro n w0 ops Q (⟨some d, .binOp .add t x y t', ty, pos, after, none⟩ :: l) r ds m H :=
  .add hx hy hd (by rw [wrap64_id hb]; exact h)
theorem w_add64 (h : WL P ro n w0 ops Q l ((d, .int .i64 (a + b)) :: r) ds m H) (hx : r.ev x = some (.int .i64 a) := by exact rfl) (hy : r.ev y = some (.int .i64 b) := by exact rfl) (hd : Nat.blt d n = true := by exact rfl) (hb : -9223372036854775808 ≤ a + b ∧ a + b ≤ 9223372036854775807 := by omega) : WL P ro n w0 ops Q (⟨some d, .binOp .add t x y t', ty, pos, after, none⟩ :: l) r ds m H := WL.add64 hx hy hd hb h
theorem WL.sub64 (hx : r.ev x = some (.int .i64 a)) (hy : r.ev y = some (.int .i64 b)) (hd : Nat.blt d n = true) (hb : -9223372036854775808 ≤ a - b ∧ a - b ≤ 9223372036854775807)
    (h : WL P ro n w0 ops Q l ((d, .int .i64 (a - b)) :: r) ds m H) : WL P ro n w0 ops Q (⟨some d, .binOp .sub t x y t', ty, pos, after, none⟩ :: l) r ds m H :=
  .sub hx hy hd (by rw [wrap64_id hb]; exact h)
theorem w_sub64 (h : WL P ro n w0 ops Q l ((d, .int .i64 (a - b)) :: r) ds m H) (hx : r.ev x = some (.int .i64 a) := by exact rfl) (hy : r.ev y = some (.int .i64 b) := by exact rfl) (hd : Nat.blt d n = true := by exact rfl) (hb : -9223372036854775808 ≤ a - b ∧ a - b ≤ 9223372036854775807 := by omega) : WL P ro n w0 ops Q (⟨some d, .binOp .sub t x y t', ty, pos, after, none⟩ :: l) r ds m H := WL.sub64 hx hy hd hb h
theorem WL.mul64 (hx : r.ev x = some (.int .i64 a)) (hy : r.ev y = some (.int .i64 b)) (hd : Nat.blt d n = true) (hb : -9223372036854775808 ≤ a * b ∧ a * b ≤ 9223372036854775807)
    (h : WL P ro n w0 ops Q l ((d, .int .i64 (a * b)) :: r) ds m H) : WL P ro n w0 ops Q (⟨some d, .binOp .mul t x y t', ty, pos, after, none⟩ :: l) r ds m H :=
  .mul hx hy hd (by rw [wrap64_id hb]; exact h)
theorem w_mul64 (h : WL P ro n w0 ops Q l ((d, .int .i64 (a * b)) :: r) ds m H) (hx : r.ev x = some (.int .i64 a) := by exact rfl) (hy : r.ev y = some (.int .i64 b) := by exact rfl) (hd : Nat.blt d n = true := by exact rfl) (hb : -9223372036854775808 ≤ a * b ∧ a * b ≤ 9223372036854775807 := by omega) : WL P ro n w0 ops Q (⟨some d, .binOp .mul t x y t', ty, pos, after, none⟩ :: l) r ds m H := WL.mul64 hx hy hd hb h
theorem WL.add32 (hx : r.ev x = some (.int .i32 a)) (hy : r.ev y = some (.int .i32 b)) (hd : Nat.blt d n = true) (hb : -2147483648 ≤ a + b ∧ a + b ≤ 2147483647)
    (h : WL P ro n w0 ops Q l ((d, .int .i32 (a + b)) :: r) ds m H) : WL P ro n w0 ops Q (⟨some d, .binOp .add t x y t', ty, pos, after, none⟩ :: l) r ds m H :=
  .add hx hy hd (by rw [wrap32_id hb]; exact h)
theorem w_add32 (h : WL P ro n w0 ops Q l ((d, .int .i32 (a + b)) :: r) ds m H) (hx : r.ev x = some (.int .i32 a) := by exact rfl) (hy : r.ev y = some (.int .i32 b) := by exact rfl) (hd : Nat.blt d n = true := by exact rfl) (hb : -2147483648 ≤ a + b ∧ a + b ≤ 2147483647 := by omega) : WL P ro n w0 ops Q (⟨some d, .binOp .add t x y t', ty, pos, after, none⟩ :: l) r ds m H := WL.add32 hx hy hd hb h
theorem WL.sub32 (hx : r.ev x = some (.int .i32 a)) (hy : r.ev y = some (.int .i32 b)) (hd : Nat.blt d n = true) (hb : -2147483648 ≤ a - b ∧ a - b ≤ 2147483647)
    (h : WL P ro n w0 ops Q l ((d, .int .i32 (a - b)) :: r) ds m H) : WL P ro n w0 ops Q (⟨some d, .binOp .sub t x y t', ty, pos, after, none⟩ :: l) r ds m H :=
  .sub hx hy hd (by rw [wrap32_id hb]; exact h)
theorem w_sub32 (h : WL P ro n w0 ops Q l ((d, .int .i32 (a - b)) :: r) ds m H) (hx : r.ev x = some (.int .i32 a) := by exact rfl) (hy : r.ev y = some (.int .i32 b) := by exact rfl) (hd : Nat.blt d n = true := by exact rfl) (hb : -2147483648 ≤ a - b ∧ a - b ≤ 2147483647 := by omega) : WL P ro n w0 ops Q (⟨some d, .binOp .sub t x y t', ty, pos, after, none⟩ :: l) r ds m H := WL.sub32 hx hy hd hb h
theorem WL.mul32 (hx : r.ev x = some (.int .i32 a)) (hy : r.ev y = some (.int .i32 b)) (hd : Nat.blt d n = true) (hb : -2147483648 ≤ a * b ∧ a * b ≤ 2147483647)
    (h : WL P ro n w0 ops Q l ((d, .int .i32 (a * b)) :: r) ds m H) : WL P ro n w0 ops Q (⟨some d, .binOp .mul t x y t', ty, pos, after, none⟩ :: l) r ds m H :=
  .mul hx hy hd (by rw [wrap32_id hb]; exact h)
theorem w_mul32 (h : WL P ro n w0 ops Q l ((d, .int .i32 (a * b)) :: r) ds m H) (hx : r.ev x = some (.int .i32 a) := by exact rfl) (hy : r.ev y = some (.int .i32 b) := by exact rfl) (hd : Nat.blt d n = true := by exact rfl) (hb : -2147483648 ≤ a * b ∧ a * b ≤ 2147483647 := by omega) : WL P ro n w0 ops Q (⟨some d, .binOp .mul t x y t', ty, pos, after, none⟩ :: l) r ds m H := WL.mul32 hx hy hd hb h
theorem WL.addu8 (hx : r.ev x = some (.int .u8 a)) (hy : r.ev y = some (.int .u8 b)) (hd : Nat.blt d n = true) (hb : 0 ≤ a + b ∧ a + b ≤ 255)
    (h : WL P ro n w0 ops Q l ((d, .int .u8 (a + b)) :: r) ds m H) : WL P ro n w0 ops Q (⟨some d, .binOp .add t x y t', ty, pos, after, none⟩ :: l) r ds m H :=
  .add hx hy hd (by rw [wrapu8_id hb]; exact h)
theorem w_addu8 (h : WL P ro n w0 ops Q l ((d, .int .u8 (a + b)) :: r) ds m H) (hx : r.ev x = some (.int .u8 a) := by exact rfl) (hy : r.ev y = some (.int .u8 b) := by exact rfl) (hd : Nat.blt d n = true := by exact rfl) (hb : 0 ≤ a + b ∧ a + b ≤ 255 := by omega) : WL P ro n w0 ops Q (⟨some d, .binOp .add t x y t', ty, pos, after, none⟩ :: l) r ds m H := WL.addu8 hx hy hd hb h
theorem WL.subu8 (hx : r.ev x = some (.int .u8 a)) (hy : r.ev y = some (.int .u8 b)) (hd : Nat.blt d n = true) (hb : 0 ≤ a - b ∧ a - b ≤ 255)
    (h : WL P ro n w0 ops Q l ((d, .int .u8 (a - b)) :: r) ds m H) : WL P ro n w0 ops Q (⟨some d, .binOp .sub t x y t', ty, pos, after, none⟩ :: l) r ds m H :=
  .sub hx hy hd (by rw [wrapu8_id hb]; exact h)
theorem w_subu8 (h : WL P ro n w0 ops Q l ((d, .int .u8 (a - b)) :: r) ds m H) (hx : r.ev x = some (.int .u8 a) := by exact rfl) (hy : r.ev y = some (.int .u8 b) := by exact rfl) (hd : Nat.blt d n = true := by exact rfl) (hb : 0 ≤ a - b ∧ a - b ≤ 255 := by omega) : WL P ro n w0 ops Q (⟨some d, .binOp .sub t x y t', ty, pos, after, none⟩ :: l) r ds m H := WL.subu8 hx hy hd hb h
/-- a quotient of numbers not below 0 -/
theorem WL.quo64 (hx : r.ev x = some (.int .i64 a)) (hy : r.ev y = some (.int .i64 b)) (hd : Nat.blt d n = true) (ha : 0 ≤ a ∧ a ≤ 9223372036854775807) (hb : 1 ≤ b)
    (h : WL P ro n w0 ops Q l ((d, .int .i64 (a / b)) :: r) ds m H) : WL P ro n w0 ops Q (⟨some d, .binOp .quo t x y t', ty, pos, after, none⟩ :: l) r ds m H := by
  refine .int2 (fun _ _ _ => guard_int _ _ _ _ _ _ _ _) (fun w => ?_) hx hy hd h
  have h0 : ¬ b = 0 := by omega
  have h1 : a.tdiv b = a / b := Int.tdiv_eq_ediv_of_nonneg ha.1
  have h2 : 0 ≤ a / b := Int.ediv_nonneg ha.1 (by omega)
  have h3 : a / b ≤ a := Int.ediv_le_self b ha.1
  simp [binOp, Op.intDiv, h0, h1, wrap64_id (e := a / b) ⟨by omega, by omega⟩]
theorem w_quo64 (h : WL P ro n w0 ops Q l ((d, .int .i64 (a / b)) :: r) ds m H) (hx : r.ev x = some (.int .i64 a) := by exact rfl) (hy : r.ev y = some (.int .i64 b) := by exact rfl) (hd : Nat.blt d n = true := by exact rfl) (ha : 0 ≤ a ∧ a ≤ 9223372036854775807 := by omega) (hb : 1 ≤ b := by omega) : WL P ro n w0 ops Q (⟨some d, .binOp .quo t x y t', ty, pos, after, none⟩ :: l) r ds m H := WL.quo64 hx hy hd ha hb h
theorem WL.rem64 (hx : r.ev x = some (.int .i64 a)) (hy : r.ev y = some (.int .i64 b)) (hd : Nat.blt d n = true) (ha : 0 ≤ a) (hb : 1 ≤ b)
    (h : WL P ro n w0 ops Q l ((d, .int .i64 (a % b)) :: r) ds m H) : WL P ro n w0 ops Q (⟨some d, .binOp .rem t x y t', ty, pos, after, none⟩ :: l) r ds m H := by
  refine .int2 (fun _ _ _ => guard_int _ _ _ _ _ _ _ _) (fun w => ?_) hx hy hd h
  have h0 : ¬ b = 0 := by omega
  have h1 : a.tmod b = a % b := Int.tmod_eq_emod_of_nonneg ha
  simp [binOp, Op.intDiv, h0, h1]
theorem w_rem64 (h : WL P ro n w0 ops Q l ((d, .int .i64 (a % b)) :: r) ds m H) (hx : r.ev x = some (.int .i64 a) := by exact rfl) (hy : r.ev y = some (.int .i64 b) := by exact rfl) (hd : Nat.blt d n = true := by exact rfl) (ha : 0 ≤ a := by omega) (hb : 1 ≤ b := by omega) : WL P ro n w0 ops Q (⟨some d, .binOp .rem t x y t', ty, pos, after, none⟩ :: l) r ds m H := WL.rem64 hx hy hd ha hb h
theorem WL.quo (hx : r.ev x = some (.int k a)) (hy : r.ev y = some (.int k b)) (hd : Nat.blt d n = true) (hb : b ≠ 0)
    (h : WL P ro n w0 ops Q l ((d, .int k (k.wrap (a.tdiv b))) :: r) ds m H) : WL P ro n w0 ops Q (⟨some d, .binOp .quo t x y t', ty, pos, after, none⟩ :: l) r ds m H :=
  .int2 (fun _ _ _ => guard_int _ _ _ _ _ _ _ _) (fun w => by simp [binOp, Op.intDiv, hb]) hx hy hd h
theorem WL.rem (hx : r.ev x = some (.int k a)) (hy : r.ev y = some (.int k b)) (hd : Nat.blt d n = true) (hb : b ≠ 0)
    (h : WL P ro n w0 ops Q l ((d, .int k (a.tmod b)) :: r) ds m H) : WL P ro n w0 ops Q (⟨some d, .binOp .rem t x y t', ty, pos, after, none⟩ :: l) r ds m H :=
  .int2 (fun _ _ _ => guard_int _ _ _ _ _ _ _ _) (fun w => by simp [binOp, Op.intDiv, hb]) hx hy hd h
theorem WL.lss (hx : r.ev x = some (.int k a)) (hy : r.ev y = some (.int k b)) (hd : Nat.blt d n = true) (h : WL P ro n w0 ops Q l ((d, .bool (dcd (a < b))) :: r) ds m H) :
    WL P ro n w0 ops Q (⟨some d, .binOp .lss t x y t', ty, pos, after, none⟩ :: l) r ds m H :=
  .int2 (fun _ _ _ => guard_int _ _ _ _ _ _ _ _) (fun w => by simp [binOp, Op.intCmp, dcd_eq]) hx hy hd h
theorem w_lss (h : WL P ro n w0 ops Q l ((d, .bool (dcd (a < b))) :: r) ds m H) (hx : r.ev x = some (.int k a) := by exact rfl) (hy : r.ev y = some (.int k b) := by exact rfl) (hd : Nat.blt d n = true := by exact rfl) : WL P ro n w0 ops Q (⟨some d, .binOp .lss t x y t', ty, pos, after, none⟩ :: l) r ds m H := WL.lss hx hy hd h
theorem WL.leq (hx : r.ev x = some (.int k a)) (hy : r.ev y = some (.int k b)) (hd : Nat.blt d n = true) (h : WL P ro n w0 ops Q l ((d, .bool (dcd (a ≤ b))) :: r) ds m H) :
    WL P ro n w0 ops Q (⟨some d, .binOp .leq t x y t', ty, pos, after, none⟩ :: l) r ds m H :=
  .int2 (fun _ _ _ => guard_int _ _ _ _ _ _ _ _) (fun w => by simp [binOp, Op.intCmp, dcd_eq]) hx hy hd h
theorem w_leq (h : WL P ro n w0 ops Q l ((d, .bool (dcd (a ≤ b))) :: r) ds m H) (hx : r.ev x = some (.int k a) := by exact rfl) (hy : r.ev y = some (.int k b) := by exact rfl) (hd : Nat.blt d n = true := by exact rfl) : WL P ro n w0 ops Q (⟨some d, .binOp .leq t x y t', ty, pos, after, none⟩ :: l) r ds m H := WL.leq hx hy hd h
theorem WL.gtr (hx : r.ev x = some (.int k a)) (hy : r.ev y = some (.int k b)) (hd : Nat.blt d n = true) (h : WL P ro n w0 ops Q l ((d, .bool (dcd (b < a))) :: r) ds m H) :
    WL P ro n w0 ops Q (⟨some d, .binOp .gtr t x y t', ty, pos, after, none⟩ :: l) r ds m H :=
  .int2 (fun _ _ _ => guard_int _ _ _ _ _ _ _ _) (fun w => by simp [binOp, Op.intCmp, dcd_eq]) hx hy hd h
theorem w_gtr (h : WL P ro n w0 ops Q l ((d, .bool (dcd (b < a))) :: r) ds m H) (hx : r.ev x = some (.int k a) := by exact rfl) (hy : r.ev y = some (.int k b) := by exact rfl) (hd : Nat.blt d n = true := by exact rfl) : WL P ro n w0 ops Q (⟨some d, .binOp .gtr t x y t', ty, pos, after, none⟩ :: l) r ds m H := WL.gtr hx hy hd h
theorem WL.geq (hx : r.ev x = some (.int k a)) (hy : r.ev y = some (.int k b)) (hd : Nat.blt d n = true) (h : WL P ro n w0 ops Q l ((d, .bool (dcd (b ≤ a))) :: r) ds m H) :
    WL P ro n w0 ops Q (⟨some d, .binOp .geq t x y t', ty, pos, after, none⟩ :: l) r ds m H :=
  .int2 (fun _ _ _ => guard_int _ _ _ _ _ _ _ _) (fun w => by simp [binOp, Op.intCmp, dcd_eq]) hx hy hd h
theorem w_geq (h : WL P ro n w0 ops Q l ((d, .bool (dcd (b ≤ a))) :: r) ds m H) (hx : r.ev x = some (.int k a) := by exact rfl) (hy : r.ev y = some (.int k b) := by exact rfl) (hd : Nat.blt d n = true := by exact rfl) : WL P ro n w0 ops Q (⟨some d, .binOp .geq t x y t', ty, pos, after, none⟩ :: l) r ds m H := WL.geq hx hy hd h
theorem WL.eqlI (hx : r.ev x = some (.int k a)) (hy : r.ev y = some (.int k b)) (hd : Nat.blt d n = true) (h : WL P ro n w0 ops Q l ((d, .bool (dcd (a = b))) :: r) ds m H) :
    WL P ro n w0 ops Q (⟨some d, .binOp .eql t x y t', ty, pos, after, none⟩ :: l) r ds m H :=
  .int2 (fun _ _ _ => guard_int _ _ _ _ _ _ _ _) (fun w => by simp [binOp, Op.intCmp, dcd_eq]; rfl) hx hy hd h
theorem w_eqlI (h : WL P ro n w0 ops Q l ((d, .bool (dcd (a = b))) :: r) ds m H) (hx : r.ev x = some (.int k a) := by exact rfl) (hy : r.ev y = some (.int k b) := by exact rfl) (hd : Nat.blt d n = true := by exact rfl) : WL P ro n w0 ops Q (⟨some d, .binOp .eql t x y t', ty, pos, after, none⟩ :: l) r ds m H := WL.eqlI hx hy hd h
theorem WL.neqI (hx : r.ev x = some (.int k a)) (hy : r.ev y = some (.int k b)) (hd : Nat.blt d n = true) (h : WL P ro n w0 ops Q l ((d, .bool (!dcd (a = b))) :: r) ds m H) :
    WL P ro n w0 ops Q (⟨some d, .binOp .neq t x y t', ty, pos, after, none⟩ :: l) r ds m H :=
  .int2 (fun _ _ _ => guard_int _ _ _ _ _ _ _ _) (fun w => by simp [binOp, Op.intCmp, dcd_eq]; rfl) hx hy hd h
theorem w_neqI (h : WL P ro n w0 ops Q l ((d, .bool (!dcd (a = b))) :: r) ds m H) (hx : r.ev x = some (.int k a) := by exact rfl) (hy : r.ev y = some (.int k b) := by exact rfl) (hd : Nat.blt d n = true := by exact rfl) : WL P ro n w0 ops Q (⟨some d, .binOp .neq t x y t', ty, pos, after, none⟩ :: l) r ds m H := WL.neqI hx hy hd h
theorem shr_val {a : Int} {e : Nat} (he : e ≤ 64) (h0 : e ≤ k.bits) : (binOp .shr t (.int k a) (.int .u64 (e : Int))).run P w0 = .ok (.int k (a / 2 ^ e)) w0 := by
  have h1 : ¬ ((e : Int) < 0) := by omega
  have h2 : min e k.bits = e := Nat.min_eq_left h0
  have h3 : a.fdiv (2 ^ e) = a / 2 ^ e := Int.fdiv_eq_ediv_of_nonneg _ (by exact_mod_cast Nat.zero_le _)
  simp [binOp, Op.shift, h1, h2, h3]
/-- a shift to the right by so many places, told in the text -/
theorem WL.shr {e : Nat} {ye : Int} {ky : IntKind} (hx : r.ev x = some (.int k a)) (hy : r.ev y = some (.int ky ye)) (hye : ye = e) (h0 : Nat.ble e k.bits = true) (hd : Nat.blt d n = true)
    (h : WL P ro n w0 ops Q l ((d, .int k (a / 2 ^ e)) :: r) ds m H) : WL P ro n w0 ops Q (⟨some d, .binOp .shr t x y t', ty, pos, after, none⟩ :: l) r ds m H :=
  .val hd (fun _ h => by cases h) (fun tmps w ho _ => by
    subst hye
    have h1 : ¬ ((e : Int) < 0) := by omega
    have h2 : min e k.bits = e := Nat.min_eq_left (by simpa using h0)
    have h3 : a.fdiv (2 ^ e) = a / 2 ^ e := Int.fdiv_eq_ediv_of_nonneg _ (by exact_mod_cast Nat.zero_le _)
    simp [execOp, ho.ev hx, ho.ev hy, guard_int, binOp, Op.shift, h1, h2, h3]) h
theorem w_shr {e : Nat} {ye : Int} {ky : IntKind} (h : WL P ro n w0 ops Q l ((d, .int k (a / 2 ^ e)) :: r) ds m H) (hx : r.ev x = some (.int k a) := by exact rfl) (hy : r.ev y = some (.int ky ye) := by exact rfl) (hye : ye = e := by exact rfl) (h0 : Nat.ble e k.bits = true := by exact rfl) (hd : Nat.blt d n = true := by exact rfl) : WL P ro n w0 ops Q (⟨some d, .binOp .shr t x y t', ty, pos, after, none⟩ :: l) r ds m H := WL.shr hx hy hye h0 hd h
theorem WL.shl {e : Nat} {ye : Int} {ky : IntKind} (hx : r.ev x = some (.int k a)) (hy : r.ev y = some (.int ky ye)) (hye : ye = e) (h0 : Nat.ble e k.bits = true) (hd : Nat.blt d n = true)
    (h : WL P ro n w0 ops Q l ((d, .int k (k.wrap (a * 2 ^ e))) :: r) ds m H) : WL P ro n w0 ops Q (⟨some d, .binOp .shl t x y t', ty, pos, after, none⟩ :: l) r ds m H :=
  .val hd (fun _ h => by cases h) (fun tmps w ho _ => by
    subst hye
    have h1 : ¬ ((e : Int) < 0) := by omega
    have h2 : min e k.bits = e := Nat.min_eq_left (by simpa using h0)
    simp [execOp, ho.ev hx, ho.ev hy, guard_int, binOp, Op.shift, h1, h2]) h
theorem w_shl {e : Nat} {ye : Int} {ky : IntKind} (h : WL P ro n w0 ops Q l ((d, .int k (k.wrap (a * 2 ^ e))) :: r) ds m H) (hx : r.ev x = some (.int k a) := by exact rfl) (hy : r.ev y = some (.int ky ye) := by exact rfl) (hye : ye = e := by exact rfl) (h0 : Nat.ble e k.bits = true := by exact rfl) (hd : Nat.blt d n = true := by exact rfl) : WL P ro n w0 ops Q (⟨some d, .binOp .shl t x y t', ty, pos, after, none⟩ :: l) r ds m H := WL.shl hx hy hye h0 hd h
theorem ofInt8 {a : Int} (h : 0 ≤ a ∧ a ≤ 255) : (BitVec.ofInt 8 a).toNat = a.toNat := by
  rw [BitVec.toNat_ofInt]; norm_cast; omega
theorem WL.and8 (hx : r.ev x = some (.int .u8 a)) (hy : r.ev y = some (.int .u8 b)) (hd : Nat.blt d n = true) (ha : 0 ≤ a ∧ a ≤ 255) (hb : 0 ≤ b ∧ b ≤ 255)
    (h : WL P ro n w0 ops Q l ((d, .int .u8 ((a.toNat &&& b.toNat : Nat) : Int)) :: r) ds m H) : WL P ro n w0 ops Q (⟨some d, .binOp .and t x y t', ty, pos, after, none⟩ :: l) r ds m H := by
  refine .int2 (fun _ _ _ => guard_int _ _ _ _ _ _ _ _) (fun w => ?_) hx hy hd h
  have h1 := ofInt8 ha
  have h2 := ofInt8 hb
  have h3 : a.toNat &&& b.toNat ≤ a.toNat := Nat.and_le_left
  have h4 : IntKind.u8.wrap ((a.toNat &&& b.toNat : Nat) : Int) = ((a.toNat &&& b.toNat : Nat) : Int) := wrapu8_id ⟨by omega, by omega⟩
  show (pure (Value.int IntKind.u8 (IntKind.u8.wrap (((BitVec.ofInt 8 a) &&& (BitVec.ofInt 8 b)).toNat : Int))) : Sem Value).run P w = _
  rw [BitVec.toNat_and, h1, h2, h4]; rfl
theorem w_and8 (h : WL P ro n w0 ops Q l ((d, .int .u8 ((a.toNat &&& b.toNat : Nat) : Int)) :: r) ds m H) (hx : r.ev x = some (.int .u8 a) := by exact rfl) (hy : r.ev y = some (.int .u8 b) := by exact rfl) (hd : Nat.blt d n = true := by exact rfl) (ha : 0 ≤ a ∧ a ≤ 255 := by omega) (hb : 0 ≤ b ∧ b ≤ 255 := by omega) : WL P ro n w0 ops Q (⟨some d, .binOp .and t x y t', ty, pos, after, none⟩ :: l) r ds m H := WL.and8 hx hy hd ha hb h
theorem WL.or8 (hx : r.ev x = some (.int .u8 a)) (hy : r.ev y = some (.int .u8 b)) (hd : Nat.blt d n = true) (ha : 0 ≤ a ∧ a ≤ 255) (hb : 0 ≤ b ∧ b ≤ 255)
    (h : WL P ro n w0 ops Q l ((d, .int .u8 ((a.toNat ||| b.toNat : Nat) : Int)) :: r) ds m H) : WL P ro n w0 ops Q (⟨some d, .binOp .or t x y t', ty, pos, after, none⟩ :: l) r ds m H := by
  refine .int2 (fun _ _ _ => guard_int _ _ _ _ _ _ _ _) (fun w => ?_) hx hy hd h
  have h1 := ofInt8 ha
  have h2 := ofInt8 hb
  have h3 : a.toNat ||| b.toNat < 2 ^ 8 := Nat.or_lt_two_pow (by omega) (by omega)
  have h4 : IntKind.u8.wrap ((a.toNat ||| b.toNat : Nat) : Int) = ((a.toNat ||| b.toNat : Nat) : Int) := wrapu8_id ⟨by omega, by omega⟩
  show (pure (Value.int IntKind.u8 (IntKind.u8.wrap (((BitVec.ofInt 8 a) ||| (BitVec.ofInt 8 b)).toNat : Int))) : Sem Value).run P w = _
  rw [BitVec.toNat_or, h1, h2, h4]; rfl
theorem w_or8 (h : WL P ro n w0 ops Q l ((d, .int .u8 ((a.toNat ||| b.toNat : Nat) : Int)) :: r) ds m H) (hx : r.ev x = some (.int .u8 a) := by exact rfl) (hy : r.ev y = some (.int .u8 b) := by exact rfl) (hd : Nat.blt d n = true := by exact rfl) (ha : 0 ≤ a ∧ a ≤ 255 := by omega) (hb : 0 ≤ b ∧ b ≤ 255 := by omega) : WL P ro n w0 ops Q (⟨some d, .binOp .or t x y t', ty, pos, after, none⟩ :: l) r ds m H := WL.or8 hx hy hd ha hb h
theorem WL.neg (hx : r.ev x = some (.int k a)) (hd : Nat.blt d n = true) (h : WL P ro n w0 ops Q l ((d, .int k (k.wrap (-a))) :: r) ds m H) :
    WL P ro n w0 ops Q (⟨some d, .unOp .neg t x, ty, pos, after, none⟩ :: l) r ds m H :=
  .val hd (fun _ h => by cases h) (fun tmps w ho _ => by simp [execOp, ho.ev hx, Op.unary, Op.intArith]) h
theorem WL.neg64 (hx : r.ev x = some (.int .i64 a)) (hd : Nat.blt d n = true) (hb : -9223372036854775808 ≤ -a ∧ -a ≤ 9223372036854775807) (h : WL P ro n w0 ops Q l ((d, .int .i64 (-a)) :: r) ds m H) :
    WL P ro n w0 ops Q (⟨some d, .unOp .neg t x, ty, pos, after, none⟩ :: l) r ds m H :=
  .neg hx hd (by rw [wrap64_id hb]; exact h)
theorem w_neg64 (h : WL P ro n w0 ops Q l ((d, .int .i64 (-a)) :: r) ds m H) (hx : r.ev x = some (.int .i64 a) := by exact rfl) (hd : Nat.blt d n = true := by exact rfl) (hb : -9223372036854775808 ≤ -a ∧ -a ≤ 9223372036854775807 := by omega) : WL P ro n w0 ops Q (⟨some d, .unOp .neg t x, ty, pos, after, none⟩ :: l) r ds m H := WL.neg64 hx hd hb h
theorem WL.not {b : Bool} (hx : r.ev x = some (.bool b)) (hd : Nat.blt d n = true) (h : WL P ro n w0 ops Q l ((d, .bool (!b)) :: r) ds m H) :
    WL P ro n w0 ops Q (⟨some d, .unOp .not t x, ty, pos, after, none⟩ :: l) r ds m H :=
  .val hd (fun _ h => by cases h) (fun tmps w ho _ => by simp [execOp, ho.ev hx, Op.unary]) h
theorem w_not {b : Bool} (h : WL P ro n w0 ops Q l ((d, .bool (!b)) :: r) ds m H) (hx : r.ev x = some (.bool b) := by exact rfl) (hd : Nat.blt d n = true := by exact rfl) : WL P ro n w0 ops Q (⟨some d, .unOp .not t x, ty, pos, after, none⟩ :: l) r ds m H := WL.not hx hd h
theorem run_convert_int {src dst : TypeId} {kd : IntKind} (hs : (P.underlying src).isSome = true) (hu : P.underlying dst = some (.int kd)) (w : World) : (convert src dst (.int k a)).run P w = .ok (.int kd (kd.wrap a)) w := by
  cases hq : P.underlying src with
  | none => simp [hq] at hs
  | some q => simp [convert, Sem.run_bind, run_underlying hq, run_underlying hu, Result.andThen_ok, Conv.intToInt]
theorem WL.conv {src dst : TypeId} {kd : IntKind} (hx : r.ev x = some (.int k a)) (hs : (P.underlying src).isSome = true) (hu : P.underlying dst = some (.int kd)) (hd : Nat.blt d n = true)
    (h : WL P ro n w0 ops Q l ((d, .int kd (kd.wrap a)) :: r) ds m H) : WL P ro n w0 ops Q (⟨some d, .convert src dst x, ty, pos, after, none⟩ :: l) r ds m H :=
  .val hd (fun _ h => by cases h) (fun tmps w ho _ => by simp only [execOp, ho.ev hx, Sem.run_bind, run_convert_int hs hu, Result.andThen_ok, Sem.run_pure]) h
theorem WL.conv64 {src dst : TypeId} (hx : r.ev x = some (.int k a)) (hs : (P.underlying src).isSome = true) (hu : P.underlying dst = some (.int .i64)) (hd : Nat.blt d n = true)
    (hb : -9223372036854775808 ≤ a ∧ a ≤ 9223372036854775807)
    (h : WL P ro n w0 ops Q l ((d, .int .i64 a) :: r) ds m H) : WL P ro n w0 ops Q (⟨some d, .convert src dst x, ty, pos, after, none⟩ :: l) r ds m H :=
  .conv hx hs hu hd (by rw [wrap64_id hb]; exact h)
theorem w_conv64 {src dst : TypeId} (h : WL P ro n w0 ops Q l ((d, .int .i64 a) :: r) ds m H) (hx : r.ev x = some (.int k a) := by exact rfl) (hs : (P.underlying src).isSome = true := by exact rfl) (hu : P.underlying dst = some (.int .i64) := by exact rfl) (hd : Nat.blt d n = true := by exact rfl) (hb : -9223372036854775808 ≤ a ∧ a ≤ 9223372036854775807 := by omega) : WL P ro n w0 ops Q (⟨some d, .convert src dst x, ty, pos, after, none⟩ :: l) r ds m H := WL.conv64 hx hs hu hd hb h
theorem WL.conv32 {src dst : TypeId} (hx : r.ev x = some (.int k a)) (hs : (P.underlying src).isSome = true) (hu : P.underlying dst = some (.int .i32)) (hd : Nat.blt d n = true)
    (hb : -2147483648 ≤ a ∧ a ≤ 2147483647)
    (h : WL P ro n w0 ops Q l ((d, .int .i32 a) :: r) ds m H) : WL P ro n w0 ops Q (⟨some d, .convert src dst x, ty, pos, after, none⟩ :: l) r ds m H :=
  .conv hx hs hu hd (by rw [wrap32_id hb]; exact h)
theorem w_conv32 {src dst : TypeId} (h : WL P ro n w0 ops Q l ((d, .int .i32 a) :: r) ds m H) (hx : r.ev x = some (.int k a) := by exact rfl) (hs : (P.underlying src).isSome = true := by exact rfl) (hu : P.underlying dst = some (.int .i32) := by exact rfl) (hd : Nat.blt d n = true := by exact rfl) (hb : -2147483648 ≤ a ∧ a ≤ 2147483647 := by omega) : WL P ro n w0 ops Q (⟨some d, .convert src dst x, ty, pos, after, none⟩ :: l) r ds m H := WL.conv32 hx hs hu hd hb h
theorem WL.conv8 {src dst : TypeId} (hx : r.ev x = some (.int k a)) (hs : (P.underlying src).isSome = true) (hu : P.underlying dst = some (.int .u8)) (hd : Nat.blt d n = true)
    (hb : 0 ≤ a ∧ a ≤ 255)
    (h : WL P ro n w0 ops Q l ((d, .int .u8 a) :: r) ds m H) : WL P ro n w0 ops Q (⟨some d, .convert src dst x, ty, pos, after, none⟩ :: l) r ds m H :=
  .conv hx hs hu hd (by rw [wrapu8_id hb]; exact h)
theorem w_conv8 {src dst : TypeId} (h : WL P ro n w0 ops Q l ((d, .int .u8 a) :: r) ds m H) (hx : r.ev x = some (.int k a) := by exact rfl) (hs : (P.underlying src).isSome = true := by exact rfl) (hu : P.underlying dst = some (.int .u8) := by exact rfl) (hd : Nat.blt d n = true := by exact rfl) (hb : 0 ≤ a ∧ a ≤ 255 := by omega) : WL P ro n w0 ops Q (⟨some d, .convert src dst x, ty, pos, after, none⟩ :: l) r ds m H := WL.conv8 hx hs hu hd hb h
theorem WL.conv8mod {src dst : TypeId} (hx : r.ev x = some (.int k a)) (hs : (P.underlying src).isSome = true) (hu : P.underlying dst = some (.int .u8)) (hd : Nat.blt d n = true)
    (h : WL P ro n w0 ops Q l ((d, .int .u8 (a % 256)) :: r) ds m H) : WL P ro n w0 ops Q (⟨some d, .convert src dst x, ty, pos, after, none⟩ :: l) r ds m H :=
  .conv hx hs hu hd (by
    have : IntKind.u8.wrap a = a % 256 := by simp [IntKind.wrap, IntKind.signed, IntKind.bits]
    rw [this]; exact h)
theorem w_conv8mod {src dst : TypeId} (h : WL P ro n w0 ops Q l ((d, .int .u8 (a % 256)) :: r) ds m H) (hx : r.ev x = some (.int k a) := by exact rfl) (hs : (P.underlying src).isSome = true := by exact rfl) (hu : P.underlying dst = some (.int .u8) := by exact rfl) (hd : Nat.blt d n = true := by exact rfl) : WL P ro n w0 ops Q (⟨some d, .convert src dst x, ty, pos, after, none⟩ :: l) r ds m H := WL.conv8mod hx hs hu hd h
theorem WL.convu64 {src dst : TypeId} (hx : r.ev x = some (.int k a)) (hs : (P.underlying src).isSome = true) (hu : P.underlying dst = some (.int .u64)) (hd : Nat.blt d n = true)
    (hb : 0 ≤ a ∧ a ≤ 18446744073709551615)
    (h : WL P ro n w0 ops Q l ((d, .int .u64 a) :: r) ds m H) : WL P ro n w0 ops Q (⟨some d, .convert src dst x, ty, pos, after, none⟩ :: l) r ds m H :=
  .conv hx hs hu hd (by rw [wrapu64_id hb]; exact h)
theorem w_convu64 {src dst : TypeId} (h : WL P ro n w0 ops Q l ((d, .int .u64 a) :: r) ds m H) (hx : r.ev x = some (.int k a) := by exact rfl) (hs : (P.underlying src).isSome = true := by exact rfl) (hu : P.underlying dst = some (.int .u64) := by exact rfl) (hd : Nat.blt d n = true := by exact rfl) (hb : 0 ≤ a ∧ a ≤ 18446744073709551615 := by omega) : WL P ro n w0 ops Q (⟨some d, .convert src dst x, ty, pos, after, none⟩ :: l) r ds m H := WL.convu64 hx hs hu hd hb h
theorem WL.min2 (hx : r.ev x = some (.int k a)) (hy : r.ev y = some (.int k b)) (hd : Nat.blt d n = true) (h : WL P ro n w0 ops Q l ((d, .int k (min a b)) :: r) ds m H) {ts : Array TypeId} :
    WL P ro n w0 ops Q (⟨some d, .call ⟨.builtin .min, #[x, y], ts⟩, ty, pos, after, none⟩ :: l) r ds m H :=
  .val hd (fun _ h => by cases h) (fun tmps w ho _ => by
    simp only [execOp, resolve, invoke, builtin, Sem.run_bind, Sem.run_pure, Result.andThen_ok, List.map_toArray, List.map_cons, List.map_nil, ho.ev hx, ho.ev hy, Builtin.min_, List.foldlM_cons, List.foldlM_nil, Builtin.min2]
    rw [Int.min_def]
    congr 2
    split <;> split <;> first | rfl | omega) h
theorem w_min2 {ts : Array TypeId} (h : WL P ro n w0 ops Q l ((d, .int k (min a b)) :: r) ds m H) (hx : r.ev x = some (.int k a) := by exact rfl) (hy : r.ev y = some (.int k b) := by exact rfl) (hd : Nat.blt d n = true := by exact rfl) : WL P ro n w0 ops Q (⟨some d, .call ⟨.builtin .min, #[x, y], ts⟩, ty, pos, after, none⟩ :: l) r ds m H := WL.min2 hx hy hd h
theorem WL.max2 (hx : r.ev x = some (.int k a)) (hy : r.ev y = some (.int k b)) (hd : Nat.blt d n = true) (h : WL P ro n w0 ops Q l ((d, .int k (max a b)) :: r) ds m H) {ts : Array TypeId} :
    WL P ro n w0 ops Q (⟨some d, .call ⟨.builtin .max, #[x, y], ts⟩, ty, pos, after, none⟩ :: l) r ds m H :=
  .val hd (fun _ h => by cases h) (fun tmps w ho _ => by
    simp only [execOp, resolve, invoke, builtin, Sem.run_bind, Sem.run_pure, Result.andThen_ok, List.map_toArray, List.map_cons, List.map_nil, ho.ev hx, ho.ev hy, Builtin.max_, List.foldlM_cons, List.foldlM_nil, Builtin.max2]
    have e : (if a < b then b else a) = max a b := by rw [Int.max_def]; split <;> split <;> omega
    rw [← e]) h
theorem w_max2 {ts : Array TypeId} (h : WL P ro n w0 ops Q l ((d, .int k (max a b)) :: r) ds m H) (hx : r.ev x = some (.int k a) := by exact rfl) (hy : r.ev y = some (.int k b) := by exact rfl) (hd : Nat.blt d n = true := by exact rfl) : WL P ro n w0 ops Q (⟨some d, .call ⟨.builtin .max, #[x, y], ts⟩, ty, pos, after, none⟩ :: l) r ds m H := WL.max2 hx hy hd h
end
end
end Go.Eng

/-
  Plain facts on the forms of runes, as Go's own decoding and encoding have them. No condition.
-/
set_option linter.all false
namespace Go.Eng
open Go

/-- a text's byte, as a number; 0 behind its end -/
abbrev nb (l : List UInt8) (k : Nat) : Nat := gb l k
/-- decoding at a text's beginning -/
def dl (l : List UInt8) : Nat × Nat :=
  let cont (k : Nat) : Bool := decide (k < l.length) && nb l k / 64 == 2
  let b0 := nb l 0
  if b0 < 0x80 then (b0, 1)
  else if b0 / 32 == 6 && cont 1 then
    let c := (b0 % 32) * 64 + nb l 1 % 64
    if c ≥ 0x80 then (c, 2) else (0xFFFD, 1)
  else if b0 / 16 == 14 && cont 1 && cont 2 then
    let c := (b0 % 16) * 4096 + (nb l 1 % 64) * 64 + nb l 2 % 64
    if c ≥ 0x800 && Utf8.valid c then (c, 3) else (0xFFFD, 1)
  else if b0 / 8 == 30 && cont 1 && cont 2 && cont 3 then
    let c := (b0 % 8) * 262144 + (nb l 1 % 64) * 4096 + (nb l 2 % 64) * 64 + nb l 3 % 64
    if c ≥ 0x10000 && Utf8.valid c then (c, 4) else (0xFFFD, 1)
  else (0xFFFD, 1)
theorem get!_eq (l : List UInt8) (k : Nat) : ((⟨l.toArray⟩ : ByteArray).get! k).toNat = nb l k := by
  simp only [ByteArray.get!, nb, gb]
  rw [getElem!_def]
  by_cases h : k < l.length
  · simp [List.getElem?_eq_getElem h, List.getD_eq_getElem?_getD]
  · simp [List.getElem?_eq_none (Nat.le_of_not_lt h), List.getD_eq_getElem?_getD]
    rfl
theorem nb_drop (l : List UInt8) (i k : Nat) : nb (l.drop i) k = nb l (i + k) := by
  simp [nb, gb, List.getD_eq_getElem?_getD, List.getElem?_drop]
theorem decode_eq (l : List UInt8) (i : Nat) : Utf8.decode ⟨l.toArray⟩ i = dl (l.drop i) := by
  have hc : ∀ k, (decide (i + k < (⟨l.toArray⟩ : ByteArray).size) : Bool) = decide (k < (l.drop i).length) := by
    intro k; rw [ofNat_toArray]; simp; omega
  simp only [Utf8.decode, dl, get!_eq, nb_drop, hc, Utf8.runeError, Nat.add_zero]
/-- a valid rune's form -/
def fm (c : Nat) : List Nat :=
  if c < 0x80 then [c] else if c < 0x800 then [0xC0 + c / 64, 0x80 + c % 64]
  else if c < 0x10000 then [0xE0 + c / 4096, 0x80 + c / 64 % 64, 0x80 + c % 64]
  else [0xF0 + c / 262144, 0x80 + c / 4096 % 64, 0x80 + c / 64 % 64, 0x80 + c % 64]
/-- the rune, or the one that stands for what is none -/
def rn (r : Int) : Nat := if Utf8.valid r then r.toNat else 0xFFFD
def fmb (c : Nat) : List UInt8 := (fm c).map UInt8.ofNat
def encB (c : Nat) : ByteArray :=
  let b (n : Nat) : UInt8 := UInt8.ofNat n
  if c < 0x80 then ⟨#[b c]⟩
  else if c < 0x800 then ⟨#[b (0xC0 + c / 64), b (0x80 + c % 64)]⟩
  else if c < 0x10000 then ⟨#[b (0xE0 + c / 4096), b (0x80 + c / 64 % 64), b (0x80 + c % 64)]⟩
  else ⟨#[b (0xF0 + c / 262144), b (0x80 + c / 4096 % 64), b (0x80 + c / 64 % 64), b (0x80 + c % 64)]⟩
theorem encB_eq (c : Nat) : (encB c).data.toList = fmb c := by
  unfold encB fmb fm
  simp only []
  split
  · rfl
  · split
    · rfl
    · split <;> rfl
theorem encode_eq (r : Int) : (Utf8.encode r).data.toList = fmb (rn r) := encB_eq (rn r)
def okr (c : Nat) : Prop := c < 0xD800 ∨ (0xE000 ≤ c ∧ c ≤ 0x10FFFF)
theorem valid_iff (r : Int) : Utf8.valid r = true ↔ 0 ≤ r ∧ okr r.toNat := by
  simp [Utf8.valid, okr]; omega
theorem valid_nat (c : Nat) : Utf8.valid (c : Int) = true ↔ okr c := by
  rw [valid_iff]; simp
theorem rn_ok (r : Int) : okr (rn r) := by
  unfold rn
  split
  · rename_i h; exact ((valid_iff r).1 h).2
  · right; decide
theorem rn_nat {c : Nat} (h : okr c) : rn (c : Int) = c := by
  unfold rn; rw [if_pos ((valid_nat c).2 h)]; simp
def wd (c : Nat) : Nat := if c < 0x80 then 1 else if c < 0x800 then 2 else if c < 0x10000 then 3 else 4
theorem fm_length (c : Nat) : (fm c).length = wd c := by
  unfold fm wd; split
  · rfl
  · split
    · rfl
    · split <;> rfl
theorem fmb_length (c : Nat) : (fmb c).length = wd c := by rw [fmb, List.length_map, fm_length]
theorem wd_pos (c : Nat) : 1 ≤ wd c ∧ wd c ≤ 4 := by unfold wd; split <;> (try split) <;> (try split) <;> omega
/-- does a text begin with the form of c? in numbers -/
def begins (l : List UInt8) (c : Nat) : Prop := wd c ≤ l.length ∧ ∀ k, k < wd c → nb l k = (fm c).getD k 0
theorem nb_fmb (c k : Nat) (hc : c ≤ 0x10FFFF) (hk : k < wd c) : nb (fmb c) k = (fm c).getD k 0 := by
  have hl : k < (fm c).length := by rw [fm_length]; exact hk
  simp only [nb, gb, fmb, List.getD_eq_getElem?_getD, List.getElem?_map, List.getElem?_eq_getElem hl, Option.map_some, Option.getD_some]
  rw [UInt8.toNat_ofNat']
  apply Nat.mod_eq_of_lt
  have : ∀ x ∈ fm c, x < 256 := by
    intro x hx
    unfold fm at hx
    split at hx
    · simp at hx; omega
    · split at hx
      · simp at hx; omega
      · split at hx <;> simp at hx <;> omega
  exact this _ (List.getElem_mem hl)
theorem begins_iff (l : List UInt8) (c : Nat) (hc : c ≤ 0x10FFFF) : begins l c ↔ l.take (wd c) = fmb c := by
  constructor
  · rintro ⟨h1, h2⟩
    apply List.ext_getElem?
    intro k
    by_cases hk : k < wd c
    · have e := (h2 k hk).trans (nb_fmb c k hc hk).symm
      have hl : k < l.length := by omega
      have hf : k < (fmb c).length := by rw [fmb_length]; exact hk
      rw [List.getElem?_take, if_pos hk, List.getElem?_eq_getElem hl, List.getElem?_eq_getElem hf]
      simp only [nb, gb, List.getD_eq_getElem?_getD, List.getElem?_eq_getElem hl, List.getElem?_eq_getElem hf, Option.getD_some] at e
      exact congrArg some (UInt8.toNat_inj.1 e)
    · rw [List.getElem?_take, if_neg hk, List.getElem?_eq_none (by rw [fmb_length]; omega)]
  · intro h
    have hl : wd c ≤ l.length := by
      have := congrArg List.length h
      rw [fmb_length, List.length_take] at this; omega
    refine ⟨hl, fun k hk => ?_⟩
    rw [← nb_fmb c k hc hk, ← h]
    simp [nb, gb, List.getD_eq_getElem?_getD, hk]
theorem fm0 (c : Nat) : (fm c).getD 0 0 = if c < 0x80 then c else if c < 0x800 then 0xC0 + c / 64 else if c < 0x10000 then 0xE0 + c / 4096 else 0xF0 + c / 262144 := by
  unfold fm; split
  · rfl
  · split
    · rfl
    · split <;> rfl
/-- a text that begins with the form of c is decoded as c -/
theorem dl_of_begins {l : List UInt8} {c : Nat} (hc : okr c) (h : begins l c) : dl l = (c, wd c) := by
  obtain ⟨h1, h2⟩ := h
  have hle : c ≤ 0x10FFFF := by rcases hc with h | h <;> omega
  unfold wd at h1 h2 ⊢
  unfold fm at h2
  unfold dl
  by_cases a1 : c < 0x80
  · simp only [a1, if_true] at h1 h2 ⊢
    have e0 := h2 0 (by omega)
    simp at e0
    simp [e0, a1]
  · by_cases a2 : c < 0x800
    · simp only [a1, a2, if_true, if_false] at h1 h2 ⊢
      have e0 := h2 0 (by omega); have e1 := h2 1 (by omega)
      simp at e0 e1
      have l1 : 1 < l.length := by omega
      have b0 : ¬ nb l 0 < 128 := by omega
      have b1 : nb l 0 / 32 = 6 := by omega
      have b2 : nb l 1 / 64 = 2 := by omega
      have b3 : nb l 0 % 32 * 64 + nb l 1 % 64 = c := by omega
      simp [b0, b1, b2, b3, l1, show c ≥ 128 by omega]
    · by_cases a3 : c < 0x10000
      · simp only [a1, a2, a3, if_true, if_false] at h1 h2 ⊢
        have e0 := h2 0 (by omega); have e1 := h2 1 (by omega); have e2 := h2 2 (by omega)
        simp at e0 e1 e2
        have l1 : 1 < l.length := by omega
        have l2 : 2 < l.length := by omega
        have b0 : ¬ nb l 0 < 128 := by omega
        have b1 : ¬ nb l 0 / 32 = 6 := by omega
        have b2 : nb l 0 / 16 = 14 := by omega
        have b3 : nb l 1 / 64 = 2 := by omega
        have b4 : nb l 2 / 64 = 2 := by omega
        have b5 : nb l 0 % 16 * 4096 + nb l 1 % 64 * 64 + nb l 2 % 64 = c := by omega
        have b6 := (valid_nat c).2 hc
        simp only [b5]
        simp [b0, b1, b2, b3, b4, l1, l2, b6, show c ≥ 2048 by omega]
      · simp only [a1, a2, a3, if_false] at h1 h2 ⊢
        have e0 := h2 0 (by omega); have e1 := h2 1 (by omega); have e2 := h2 2 (by omega); have e3 := h2 3 (by omega)
        simp at e0 e1 e2 e3
        have l1 : 1 < l.length := by omega
        have l2 : 2 < l.length := by omega
        have l3 : 3 < l.length := by omega
        have b0 : ¬ nb l 0 < 128 := by omega
        have b1 : ¬ nb l 0 / 32 = 6 := by omega
        have b2 : ¬ nb l 0 / 16 = 14 := by omega
        have b2' : nb l 0 / 8 = 30 := by omega
        have b3 : nb l 1 / 64 = 2 := by omega
        have b4 : nb l 2 / 64 = 2 := by omega
        have b4' : nb l 3 / 64 = 2 := by omega
        have b5 : nb l 0 % 8 * 262144 + nb l 1 % 64 * 4096 + nb l 2 % 64 * 64 + nb l 3 % 64 = c := by omega
        have b6 := (valid_nat c).2 hc
        simp only [b5]
        simp [b0, b1, b2, b2', b3, b4, b4', l1, l2, l3, b6, show c ≥ 65536 by omega]
/-- what is decoded is the form that the text begins with; else a broken byte -/
theorem dl_cases (l : List UInt8) (hl : 0 < l.length) : (okr (dl l).1 ∧ (dl l).2 = wd (dl l).1 ∧ begins l (dl l).1) ∨ (dl l = (0xFFFD, 1) ∧ ∀ c, okr c → ¬ begins l c) := by
  by_cases hx : ∃ c, okr c ∧ begins l c
  · obtain ⟨c, hc, hb⟩ := hx
    have := dl_of_begins hc hb
    rw [this]
    exact .inl ⟨hc, rfl, hb⟩
  · have hno : ∀ c, okr c → ¬ begins l c := fun c hc hb => hx ⟨c, hc, hb⟩
    refine .inr ⟨?_, hno⟩
    have hlt : ∀ k, nb l k < 256 := fun k => gb_lt l k
    have g0 := hlt 0; have g1 := hlt 1; have g2 := hlt 2; have g3 := hlt 3
    unfold dl
    simp only []
    by_cases a1 : nb l 0 < 128
    · exfalso
      refine hno (nb l 0) (.inl (by omega)) ⟨by unfold wd; rw [if_pos a1]; omega, fun k hk => ?_⟩
      unfold wd at hk; rw [if_pos a1] at hk
      obtain rfl : k = 0 := by omega
      unfold fm; rw [if_pos a1]; rfl
    rw [if_neg a1]
    split
    · rename_i h
      simp at h
      obtain ⟨h1, h2, h3⟩ := h
      split
      · rename_i hc
        exfalso
        have n1 : ¬ nb l 0 % 32 * 64 + nb l 1 % 64 < 128 := by omega
        have n2 : nb l 0 % 32 * 64 + nb l 1 % 64 < 2048 := by omega
        refine hno (nb l 0 % 32 * 64 + nb l 1 % 64) (.inl (by omega)) ⟨by unfold wd; rw [if_neg n1, if_pos n2]; omega, fun k hk => ?_⟩
        unfold wd at hk; rw [if_neg n1, if_pos n2] at hk
        unfold fm; rw [if_neg n1, if_pos n2]
        rcases (show k = 0 ∨ k = 1 by omega) with rfl | rfl <;> simp <;> omega
      · rfl
    · split
      · rename_i h0 h
        simp at h
        obtain ⟨⟨h1, h2, h3⟩, h4, h5⟩ := h
        split
        · rename_i hc
          exfalso
          simp at hc
          obtain ⟨hc1, hc2⟩ := hc
          have hok := (valid_nat (nb l 0 % 16 * 4096 + nb l 1 % 64 * 64 + nb l 2 % 64)).1 (by simpa using hc2)
          generalize hcc : nb l 0 % 16 * 4096 + nb l 1 % 64 * 64 + nb l 2 % 64 = c at *
          have n1 : ¬ c < 128 := by omega
          have n2 : ¬ c < 2048 := by omega
          have n3 : c < 65536 := by omega
          refine hno c hok ⟨by unfold wd; rw [if_neg n1, if_neg n2, if_pos n3]; omega, fun k hk => ?_⟩
          unfold wd at hk; rw [if_neg n1, if_neg n2, if_pos n3] at hk
          unfold fm; rw [if_neg n1, if_neg n2, if_pos n3]
          rcases (show k = 0 ∨ k = 1 ∨ k = 2 by omega) with rfl | rfl | rfl <;> simp <;> omega
        · rfl
      · split
        · rename_i h
          simp at h
          obtain ⟨⟨⟨h1, h2, h3⟩, h4, h5⟩, h6, h7⟩ := h
          split
          · rename_i hc
            exfalso
            simp at hc
            obtain ⟨hc1, hc2⟩ := hc
            have hok := (valid_nat (nb l 0 % 8 * 262144 + nb l 1 % 64 * 4096 + nb l 2 % 64 * 64 + nb l 3 % 64)).1 (by simpa using hc2)
            generalize hcc : nb l 0 % 8 * 262144 + nb l 1 % 64 * 4096 + nb l 2 % 64 * 64 + nb l 3 % 64 = c at *
            have n1 : ¬ c < 128 := by omega
            have n2 : ¬ c < 2048 := by omega
            have n3 : ¬ c < 65536 := by omega
            have n4 : c < 2097152 := by omega
            refine hno c hok ⟨by unfold wd; rw [if_neg n1, if_neg n2, if_neg n3]; omega, fun k hk => ?_⟩
            unfold wd at hk; rw [if_neg n1, if_neg n2, if_neg n3] at hk
            unfold fm; rw [if_neg n1, if_neg n2, if_neg n3]
            rcases (show k = 0 ∨ k = 1 ∨ k = 2 ∨ k = 3 by omega) with rfl | rfl | rfl | rfl <;> simp <;> omega
          · rfl
        · rfl
end Go.Eng

/-
  Plain facts on the pieces of a text: runes and broken bytes. No condition.
-/
set_option linter.all false
namespace Go.Eng
open Go
structure Pc where
  at_ : Nat
  w : Nat
  r : Nat
  b : Bool
  deriving DecidableEq
def Pc.cs (p : Pc) : List Value := [.int .i64 (p.at_ : Int), .int .i64 (p.w : Int), .int .i32 (p.r : Int), .bool p.b]
def Pc.v (p : Pc) : Value := .agg p.cs.toArray
/-- the piece that is read at a place -/
def readP (l : List UInt8) (k : Nat) : Pc := if dl (l.drop k) = (65533, 1) then ⟨k, 1, 65533, true⟩ else ⟨k, (dl (l.drop k)).2, (dl (l.drop k)).1, false⟩
theorem readP_at (l : List UInt8) (k : Nat) : (readP l k).at_ = k := by unfold readP; split <;> rfl
theorem readP_w_eq (l : List UInt8) (k : Nat) : (readP l k).w = (dl (l.drop k)).2 := by
  unfold readP; split
  · rename_i h; rw [h]
  · rfl
theorem readP_r_eq (l : List UInt8) (k : Nat) : (readP l k).r = (dl (l.drop k)).1 := by
  unfold readP; split
  · rename_i h; rw [h]
  · rfl
theorem readP_w {l : List UInt8} {k : Nat} (hk : k < l.length) : 1 ≤ (readP l k).w ∧ (readP l k).w ≤ 4 ∧ k + (readP l k).w ≤ l.length := by
  unfold readP
  split
  · exact ⟨Nat.le_refl _, by show 1 ≤ 4; omega, hk⟩
  · rename_i h
    rcases dl_cases (l.drop k) (by simp; omega) with ⟨_, h2, h3⟩ | ⟨h2, _⟩
    · have h4 := wd_pos (dl (l.drop k)).1
      have h5 := h3.1
      simp only [List.length_drop] at h5
      simp only [h2]
      omega
    · exact absurd h2 h
theorem readP_ok {l : List UInt8} {k : Nat} (hk : k < l.length) : okr (readP l k).r := by
  rw [readP_r_eq]
  rcases dl_cases (l.drop k) (by simp; omega) with ⟨h1, _, _⟩ | ⟨h1, _⟩
  · exact h1
  · rw [h1]; right; decide
theorem okr_le {c : Nat} (h : okr c) : c ≤ 1114111 := by rcases h with h | h <;> omega
def pcs : Nat → List UInt8 → Nat → List Pc
  | 0, _, _ => []
  | f + 1, l, k => if k < l.length then readP l k :: pcs f l (k + (readP l k).w) else []
theorem pcs_more (l : List UInt8) : ∀ (f g k : Nat), l.length - k ≤ f → l.length - k ≤ g → pcs f l k = pcs g l k
  | 0, 0, _, _, _ => rfl
  | 0, g + 1, k, hf, _ => by
    have : ¬ k < l.length := by omega
    simp [pcs, this]
  | f + 1, 0, k, _, hg => by
    have : ¬ k < l.length := by omega
    simp [pcs, this]
  | f + 1, g + 1, k, hf, hg => by
    simp only [pcs]
    split
    · rename_i hk
      have hw := readP_w hk
      rw [pcs_more l f g _ (by omega) (by omega)]
    · rfl
/-- the pieces from a place on -/
def from_ (l : List UInt8) (k : Nat) : List Pc := pcs l.length l k
def pieces (l : List UInt8) : List Pc := from_ l 0
theorem from_cons {l : List UInt8} {k : Nat} (hk : k < l.length) : from_ l k = readP l k :: from_ l (k + (readP l k).w) := by
  have hw := readP_w hk
  unfold from_
  rw [pcs_more l l.length (l.length + 1) k (by omega) (by omega)]
  simp only [pcs, if_pos hk]
theorem from_nil {l : List UInt8} {k : Nat} (hk : ¬ k < l.length) : from_ l k = [] := by
  unfold from_
  cases hl : l.length with
  | zero => rfl
  | succ f => simp only [pcs]; rw [if_neg hk]
end Go.Eng

/-
  Plain facts on the pieces of a text, second part: pieces lie in step with the forms; the last piece. No condition.
-/
set_option linter.all false
namespace Go.Eng
open Go
set_option linter.all false
theorem fm_lead {c : Nat} (hc : c ≤ 1114111) : (fm c).getD 0 0 < 128 ∨ (192 ≤ (fm c).getD 0 0) := by
  unfold fm
  split
  · left; simpa
  · split
    · right; simp
    · split
      · right; simp; omega
      · right; simp; omega
theorem fm_cont {c i : Nat} (h1 : 1 ≤ i) (h2 : i < wd c) : 128 ≤ (fm c).getD i 0 ∧ (fm c).getD i 0 < 192 := by
  unfold fm
  unfold wd at h2
  split at h2
  · omega
  · rename_i h3
    rw [if_neg h3]
    split at h2
    · rename_i h4
      rw [if_pos h4]
      have : i = 1 := by omega
      subst this
      simp; omega
    · rename_i h4
      rw [if_neg h4]
      split at h2
      · rename_i h5
        rw [if_pos h5]
        obtain rfl | rfl : i = 1 ∨ i = 2 := by omega
        · simp; omega
        · simp; omega
      · rename_i h5
        rw [if_neg h5]
        obtain rfl | rfl | rfl : i = 1 ∨ i = 2 ∨ i = 3 := by omega
        · simp; omega
        · simp; omega
        · simp; omega
theorem head_lead {l : List UInt8} (hl : 0 < l.length) (h : ¬ dl l = (65533, 1)) : gb l 0 < 128 ∨ 192 ≤ gb l 0 := by
  rcases dl_cases l hl with ⟨h1, h2, h3⟩ | ⟨h1, _⟩
  · have := h3.2 0 (wd_pos _).1
    rw [show gb l 0 = nb l 0 from rfl, this]
    exact fm_lead (okr_le h1)
  · exact absurd h1 h
theorem tail_cont {l : List UInt8} (hl : 0 < l.length) {i : Nat} (h1 : 1 ≤ i) (h2 : i < (dl l).2) : 128 ≤ gb l i ∧ gb l i < 192 := by
  rcases dl_cases l hl with ⟨g1, g2, g3⟩ | ⟨g1, _⟩
  · rw [g2] at h2
    have := g3.2 i h2
    rw [show gb l i = nb l i from rfl, this]
    exact fm_cont h1 h2
  · rw [g1] at h2; simp at h2; omega
/-- a place where a piece begins -/
def Reach (l : List UInt8) (j : Nat) : Prop := ∃ pre, pieces l = pre ++ from_ l j
theorem Reach.zero (l : List UInt8) : Reach l 0 := ⟨[], rfl⟩
theorem Reach.step {l : List UInt8} {j : Nat} (h : Reach l j) (hj : j < l.length) : Reach l (j + (readP l j).w) := by
  obtain ⟨pre, h⟩ := h
  exact ⟨pre ++ [readP l j], by rw [h, from_cons hj]; simp⟩
theorem reach_lead {l : List UInt8} {j : Nat} (hj : j < l.length) (hlead : gb l j < 128 ∨ 192 ≤ gb l j) : ∀ d i, j - i ≤ d → i ≤ j → Reach l i → Reach l j
  | 0, i, hd, hi, h => by
    have : i = j := by omega
    subst this; exact h
  | d + 1, i, hd, hi, h => by
    by_cases e : i = j
    · subst e; exact h
    · have hil : i < l.length := by omega
      have hw := readP_w hil
      have h2 : i + (readP l i).w ≤ j := by
        rw [readP_w_eq]
        rcases Nat.lt_or_ge j (i + (dl (l.drop i)).2) with hlt | hge
        · exfalso
          have := tail_cont (l := l.drop i) (by simp; omega) (i := j - i) (by omega) (by omega)
          rw [show gb (l.drop i) (j - i) = gb l (i + (j - i)) from nb_drop l i (j - i), show i + (j - i) = j by omega] at this
          omega
        · exact hge
      exact reach_lead hj hlead d _ (by omega) h2 (h.step hil)
/-- what begins whole at a place begins a piece -/
theorem reach_whole {l : List UInt8} {j : Nat} (hj : j < l.length) (h : (readP l j).b = false) : Reach l j := by
  have h1 : ¬ dl (l.drop j) = (65533, 1) := by
    intro h2
    simp [readP, h2] at h
  have := head_lead (l := l.drop j) (by simp; omega) h1
  rw [show gb (l.drop j) 0 = gb l (j + 0) from nb_drop l j 0] at this
  exact reach_lead hj this j 0 (by omega) (by omega) (Reach.zero l)
theorem readP_b {l : List UInt8} {j : Nat} (h : (readP l j).b = true) : (readP l j).w = 1 := by
  unfold readP at h ⊢
  split
  · rfl
  · rename_i h2
    rw [if_neg h2] at h
    cases h
theorem exists_last (l : List UInt8) : ∀ d i, l.length - i ≤ d → i < l.length → Reach l i → ∃ j, Reach l j ∧ j < l.length ∧ j + (readP l j).w = l.length
  | 0, i, hd, hi, _ => by omega
  | d + 1, i, hd, hi, h => by
    have hw := readP_w hi
    by_cases e : i + (readP l i).w = l.length
    · exact ⟨i, h, hi, e⟩
    · exact exists_last l d _ (by omega) (by omega) (h.step hi)
def lastP (l : List UInt8) : Pc := (pieces l).getLastD ⟨0, 0, 0, false⟩
theorem lastP_of {l : List UInt8} {j : Nat} (h : Reach l j) (hj : j < l.length) (he : j + (readP l j).w = l.length) : lastP l = readP l j := by
  obtain ⟨pre, h⟩ := h
  rw [from_cons hj, he, from_nil (by omega)] at h
  simp [lastP, h]
theorem lastP_whole {l : List UInt8} {w : Nat} (hw : w ≤ l.length) (h1 : 1 ≤ w) (hb : (readP l (l.length - w)).b = false) (he : (readP l (l.length - w)).w = w) : lastP l = readP l (l.length - w) :=
  lastP_of (reach_whole (by omega) hb) (by omega) (by omega)
theorem lastP_one {l : List UInt8} (hl : 0 < l.length) (h : ∀ w, 2 ≤ w → w ≤ 4 → w ≤ l.length → ¬ ((readP l (l.length - w)).b = false ∧ (readP l (l.length - w)).w = w)) : lastP l = readP l (l.length - 1) := by
  obtain ⟨j, h1, h2, h3⟩ := exists_last l l.length 0 (by omega) hl (Reach.zero l)
  have hw := readP_w h2
  rw [lastP_of h1 h2 h3]
  by_cases e : (readP l j).w = 1
  · rw [show l.length - 1 = j by omega]
  · exfalso
    refine h (readP l j).w (by omega) (by omega) (by omega) ?_
    rw [show l.length - (readP l j).w = j by omega]
    refine ⟨?_, rfl⟩
    cases hb : (readP l j).b with
    | false => rfl
    | true => exact absurd (readP_b hb) e
end Go.Eng

/-
  Plain facts on the pieces of a text, third part: which places are boundaries, and what stands around a place. No condition.
-/
set_option linter.all false
namespace Go.Eng
open Go
set_option linter.all false
theorem from_split (l : List UInt8) : ∀ d k, l.length - k ≤ d → ∀ pre p post, from_ l k = pre ++ p :: post → k ≤ p.at_ ∧ p.at_ < l.length ∧ p = readP l p.at_ ∧ p :: post = from_ l p.at_ ∧ (∀ q ∈ pre, q.at_ < p.at_)
  | 0, k, hd, pre, p, post, h => by
    rw [from_nil (by omega)] at h; simp at h
  | d + 1, k, hd, pre, p, post, h => by
    by_cases hk : k < l.length
    · have hw := readP_w hk
      have h' := h
      rw [from_cons hk] at h
      cases pre with
      | nil =>
        simp only [List.nil_append, List.cons.injEq] at h
        obtain ⟨rfl, h2⟩ := h
        have ha := readP_at l k
        refine ⟨by omega, by omega, by rw [ha], by rw [ha, from_cons hk, h2], by simp⟩
      | cons q pre =>
        simp only [List.cons_append, List.cons.injEq] at h
        obtain ⟨rfl, h2⟩ := h
        obtain ⟨g1, g2, g3, g4, g5⟩ := from_split l d _ (by omega) pre p post h2
        refine ⟨by omega, g2, g3, g4, fun q hq => ?_⟩
        rcases List.mem_cons.1 hq with rfl | hq
        · rw [readP_at]; omega
        · exact g5 q hq
    · rw [from_nil hk] at h; simp at h
theorem pieces_split {l : List UInt8} {pre post : List Pc} {p : Pc} (h : pieces l = pre ++ p :: post) : p.at_ < l.length ∧ p = readP l p.at_ ∧ p :: post = from_ l p.at_ ∧ (∀ q ∈ pre, q.at_ < p.at_) :=
  (from_split l l.length 0 (by omega) pre p post h).2
theorem reach_of_mem {l : List UInt8} {p : Pc} (h : p ∈ pieces l) : Reach l p.at_ ∧ p.at_ < l.length ∧ p = readP l p.at_ := by
  obtain ⟨pre, post, e⟩ := List.append_of_mem h
  obtain ⟨h1, h2, h3, _⟩ := pieces_split e
  exact ⟨⟨pre, by rw [e, h3]⟩, h1, h2⟩
theorem reach_mem {l : List UInt8} {k : Nat} (h : Reach l k) (hk : k < l.length) : readP l k ∈ pieces l := by
  obtain ⟨pre, e⟩ := h
  rw [e, from_cons hk]; simp
/-- what lies ahead of a place where a piece begins, and what from it on -/
theorem reach_parts {l : List UInt8} {k : Nat} (h : Reach l k) : ∃ pre, pieces l = pre ++ from_ l k ∧ (∀ q ∈ pre, q.at_ < k ∨ l.length ≤ k) ∧ (∀ q ∈ from_ l k, k ≤ q.at_) := by
  obtain ⟨pre, e⟩ := h
  refine ⟨pre, e, fun q hq => ?_, fun q hq => ?_⟩
  · by_cases hk : k < l.length
    · rw [from_cons hk] at e
      have := (pieces_split e).2.2.2 q hq
      rw [readP_at] at this
      exact .inl this
    · exact .inr (by omega)
  · obtain ⟨a, b, e2⟩ := List.append_of_mem hq
    exact (from_split l l.length k (by omega) a q b e2).1
/-- within a piece no piece begins -/
theorem not_reach_within {l : List UInt8} {i j : Nat} (hi : i < l.length) (h : Reach l i) (h1 : i < j) (h2 : j < i + (readP l i).w) : ¬ Reach l j := by
  intro hj
  have hw := readP_w hi
  have hjl : j < l.length := by omega
  obtain ⟨pre, e, g1, g2⟩ := reach_parts h
  have hm := reach_mem hj hjl
  rw [e, List.mem_append] at hm
  rcases hm with hm | hm
  · rcases g1 _ hm with g | g
    · rw [readP_at] at g; omega
    · omega
  · rw [from_cons hi] at hm
    rcases List.mem_cons.1 hm with hm | hm
    · have := congrArg Pc.at_ hm
      rw [readP_at, readP_at] at this; omega
    · obtain ⟨a, b, e2⟩ := List.append_of_mem hm
      have := (from_split l l.length _ (by omega) a _ b e2).1
      rw [readP_at] at this; omega
theorem exists_around {l : List UInt8} {j : Nat} (hj : j < l.length) : ∀ d i, j - i ≤ d → i ≤ j → Reach l i → ∃ k, Reach l k ∧ k ≤ j ∧ j < k + (readP l k).w
  | 0, i, hd, hi, h => by
    have hw := readP_w (l := l) (k := i) (by omega)
    exact ⟨i, h, hi, by omega⟩
  | d + 1, i, hd, hi, h => by
    have hw := readP_w (l := l) (k := i) (by omega)
    by_cases e : j < i + (readP l i).w
    · exact ⟨i, h, hi, e⟩
    · exact exists_around hj d _ (by omega) (by omega) (h.step (by omega))
/-- a place within a form: where the form begins -/
def Within (l : List UInt8) (at_ i : Nat) : Prop := i < at_ ∧ at_ < i + (readP l i).w ∧ (readP l i).b = false
theorem within_reach {l : List UInt8} {at_ i : Nat} (ha : at_ ≤ l.length) (h : Within l at_ i) : Reach l i ∧ i < l.length ∧ at_ ≤ i + 3 ∧ at_ < l.length := by
  obtain ⟨h1, h2, h3⟩ := h
  have hi : i < l.length := by omega
  have hw := readP_w hi
  exact ⟨reach_whole hi h3, hi, by omega, by omega⟩
theorem within_unique {l : List UInt8} {at_ i j : Nat} (ha : at_ ≤ l.length) (h : Within l at_ i) (h' : Within l at_ j) : i = j := by
  obtain ⟨r1, i1, _⟩ := within_reach ha h
  obtain ⟨r2, j1, _⟩ := within_reach ha h'
  obtain ⟨a1, a2, a3⟩ := h
  obtain ⟨b1, b2, b3⟩ := h'
  rcases Nat.lt_trichotomy i j with g | g | g
  · exact absurd r2 (not_reach_within i1 r1 g (by omega))
  · exact g
  · exact absurd r1 (not_reach_within j1 r2 g (by omega))
theorem within_iff {l : List UInt8} {at_ : Nat} (ha : at_ ≤ l.length) : (∃ i, Within l at_ i) ↔ ¬ (at_ = l.length ∨ Reach l at_) := by
  constructor
  · rintro ⟨i, h⟩ hr
    obtain ⟨r1, i1, i2, i3⟩ := within_reach ha h
    rcases hr with hr | hr
    · omega
    · exact not_reach_within i1 r1 h.1 h.2.1 hr
  · intro hn
    have hlt : at_ < l.length := by
      rcases Nat.lt_or_ge at_ l.length with h | h
      · exact h
      · exact absurd (.inl (by omega)) hn
    obtain ⟨k, h1, h2, h3⟩ := exists_around hlt at_ 0 (by omega) (by omega) (Reach.zero l)
    refine ⟨k, ?_, h3, ?_⟩
    · rcases Nat.lt_or_ge k at_ with h | h
      · exact h
      · have : k = at_ := by omega
        subst this
        exact absurd (.inr h1) hn
    · cases hb : (readP l k).b with
      | false => rfl
      | true =>
        have := readP_b hb
        have : k = at_ := by omega
        subst this
        exact absurd (.inr h1) hn
end Go.Eng

/-
  Plain facts: pieces that two texts have alike, their order; a rune's first piece. No condition.
-/
set_option linter.all false
namespace Go.Eng
open Go
/-- a piece's place in the order of pieces -/
def wt (l : List UInt8) (p : Pc) : Nat := if p.b then 16777216 + gb l p.at_ else p.r
def cm : List Nat → List Nat → Nat
  | x :: X, y :: Y => if x = y then cm X Y + 1 else 0
  | _, _ => 0
def cmpL : List Nat → List Nat → Int
  | [], [] => 0
  | [], _ :: _ => -1
  | _ :: _, [] => 1
  | x :: X, y :: Y => if x = y then cmpL X Y else if x < y then -1 else 1
theorem cm_pre : ∀ (P X Y : List Nat), cm (P ++ X) (P ++ Y) = P.length + cm X Y
  | [], X, Y => by simp
  | p :: P, X, Y => by simp [cm, cm_pre P X Y]; omega
theorem cmpL_pre : ∀ (P X Y : List Nat), cmpL (P ++ X) (P ++ Y) = cmpL X Y
  | [], X, Y => rfl
  | p :: P, X, Y => by simp [cmpL, cmpL_pre P X Y]
/-- two rows that have nothing alike at their heads -/
def stop : List Nat → List Nat → Prop
  | x :: _, y :: _ => x ≠ y
  | _, _ => True
theorem cm_stop {X Y : List Nat} (h : stop X Y) : cm X Y = 0 := by
  cases X <;> cases Y <;> simp_all [cm, stop]
theorem cm_split : ∀ X Y : List Nat, ∃ P X' Y', X = P ++ X' ∧ Y = P ++ Y' ∧ cm X Y = P.length ∧ stop X' Y'
  | [], Y => ⟨[], [], Y, rfl, rfl, by simp [cm], trivial⟩
  | x :: X, [] => ⟨[], x :: X, [], rfl, rfl, by simp [cm], trivial⟩
  | x :: X, y :: Y => by
    by_cases h : x = y
    · subst h
      obtain ⟨P, X', Y', rfl, rfl, h1, h2⟩ := cm_split X Y
      exact ⟨x :: P, X', Y', rfl, rfl, by simp [cm, h1], h2⟩
    · exact ⟨[], x :: X, y :: Y, rfl, rfl, by simp [cm, h], h⟩
theorem readP_cases {l : List UInt8} {k : Nat} (hk : k < l.length) : ((readP l k).b = true ∧ (readP l k).w = 1 ∧ (readP l k).r = 65533) ∨ ((readP l k).b = false ∧ (readP l k).w = wd (readP l k).r ∧ (readP l k).r ≤ 1114111) := by
  unfold readP
  split
  · exact .inl ⟨rfl, rfl, rfl⟩
  · rename_i h
    rcases dl_cases (l.drop k) (by simp; omega) with ⟨h1, h2, _⟩ | ⟨h2, _⟩
    · exact .inr ⟨rfl, h2, okr_le h1⟩
    · exact absurd h2 h
theorem wt_read {l : List UInt8} {k : Nat} : wt l (readP l k) = if (readP l k).b then 16777216 + gb l k else (readP l k).r := by unfold wt; rw [readP_at]
/-- so far all is alike -/
def Sh (a b : List UInt8) (n k : Nat) : Prop := ∃ pa pb, pieces a = pa ++ from_ a k ∧ pieces b = pb ++ from_ b k ∧ pa.length = n ∧ pb.length = n ∧ pa.map (wt a) = pb.map (wt b) ∧ k ≤ a.length ∧ k ≤ b.length
theorem Sh.start (a b : List UInt8) : Sh a b 0 0 := ⟨[], [], rfl, rfl, rfl, rfl, rfl, by omega, by omega⟩
theorem wt_same {a b : List UInt8} {k : Nat} (ha : k < a.length) (hb : k < b.length) : wt a (readP a k) = wt b (readP b k) ↔ readP a k = readP b k ∧ ((readP a k).b = true → gb a k = gb b k) := by
  rw [wt_read, wt_read]
  have h1 := readP_at a k
  have h2 := readP_at b k
  have h3 := gb_lt a k
  have h4 := gb_lt b k
  have e1 := readP_cases ha
  have e2 := readP_cases hb
  generalize readP a k = p at *
  generalize readP b k = q at *
  obtain ⟨pa, pw, pr, pb⟩ := p
  obtain ⟨qa, qw, qr, qb⟩ := q
  simp only at *
  subst h1; subst h2
  simp only [Pc.mk.injEq]
  rcases e1 with ⟨rfl, rfl, rfl⟩ | ⟨rfl, rfl, h5⟩ <;> rcases e2 with ⟨rfl, rfl, rfl⟩ | ⟨rfl, rfl, h6⟩
  · simp
  · simp; omega
  · simp; omega
  · simp; intro h; rw [h]
theorem Sh.next {a b : List UInt8} {n k : Nat} (h : Sh a b n k) (ha : k < a.length) (hb : k < b.length) (hw : wt a (readP a k) = wt b (readP b k)) : Sh a b (n + 1) (k + (readP a k).w) := by
  obtain ⟨pa, pb, h1, h2, h3, h4, h5, h6, h7⟩ := h
  have he := ((wt_same ha hb).1 hw).1
  rw [from_cons ha] at h1
  rw [from_cons hb] at h2
  have w1 := readP_w ha
  have w2 := readP_w hb
  refine ⟨pa ++ [readP a k], pb ++ [readP b k], by simpa using h1, by rw [he]; simpa using h2, by simp [h3], by simp [h4], by simp [h5, hw], by omega, by rw [he]; omega⟩
theorem Sh.done {a b : List UInt8} {n k : Nat} (h : Sh a b n k) (hs : k = a.length ∨ k = b.length ∨ wt a (readP a k) ≠ wt b (readP b k)) :
    n = cm ((pieces a).map (wt a)) ((pieces b).map (wt b)) ∧ cmpL ((pieces a).map (wt a)) ((pieces b).map (wt b)) = if k = a.length ∧ k = b.length then 0 else if k = a.length then -1 else if k = b.length then 1 else if wt a (readP a k) < wt b (readP b k) then -1 else 1 := by
  obtain ⟨pa, pb, h1, h2, h3, h4, h5, h6, h7⟩ := h
  rw [h1, h2, List.map_append, List.map_append, ← h5, cm_pre, cmpL_pre, List.length_map, h3]
  rcases Nat.lt_or_eq_of_le h6 with ha | ha
  · rw [from_cons ha]
    rcases Nat.lt_or_eq_of_le h7 with hb | hb
    · rw [from_cons hb]
      have hne : wt a (readP a k) ≠ wt b (readP b k) := by omega
      simp only [List.map_cons, cm, cmpL, if_neg hne]
      refine ⟨by omega, ?_⟩
      simp [show ¬ k = a.length by omega, show ¬ k = b.length by omega]
    · rw [from_nil (l := b) (k := k) (by omega)]
      simp only [List.map_cons, List.map_nil, cm, cmpL]
      refine ⟨by omega, ?_⟩
      rw [if_neg (by omega), if_neg (by omega), if_pos hb]
  · rw [from_nil (l := a) (k := k) (by omega)]
    rcases Nat.lt_or_eq_of_le h7 with hb | hb
    · rw [from_cons hb]
      simp only [List.map_cons, List.map_nil, cm, cmpL]
      refine ⟨by omega, ?_⟩
      rw [if_neg (by omega), if_pos ha]
    · rw [from_nil (l := b) (k := k) (by omega)]
      simp only [List.map_nil, cm, cmpL]
      refine ⟨by omega, ?_⟩
      rw [if_pos ⟨ha, hb⟩]
/-- the place of a rune's first piece -/
def idx : List Pc → Int → Int
  | [], _ => -1
  | p :: ps, r => if (p.r : Int) = r ∧ p.b = false then (p.at_ : Int) else idx ps r
def noIdx (ps : List Pc) (r : Int) : Prop := ∀ p ∈ ps, ¬ ((p.r : Int) = r ∧ p.b = false)
theorem idx_pre : ∀ {ps : List Pc} {r : Int} (X : List Pc), noIdx ps r → idx (ps ++ X) r = idx X r
  | [], _, _, _ => rfl
  | p :: ps, r, X, h => by
    rw [List.cons_append, idx, if_neg (h p List.mem_cons_self)]
    exact idx_pre X (fun q hq => h q (List.mem_cons_of_mem _ hq))
theorem noIdx_snoc {ps : List Pc} {r : Int} {p : Pc} (h : noIdx ps r) (hp : ¬ ((p.r : Int) = r ∧ p.b = false)) : noIdx (ps ++ [p]) r := by
  intro q hq
  rcases List.mem_append.1 hq with hq | hq
  · exact h q hq
  · rw [List.mem_singleton.1 hq]; exact hp
end Go.Eng

/-
  Plain facts on the pieces of a text, fourth part: the boundaries as a row of numbers, and the ones next to a place. No condition.
-/
set_option linter.all false
namespace Go.Eng
open Go
set_option linter.all false
/-- the boundaries of a text -/
def endsOf (l : List UInt8) : List Nat := (pieces l).map Pc.at_ ++ [l.length]
def leOf (k : Nat) : List Nat → Nat → Nat
  | [], a => a
  | x :: xs, a => leOf k xs (if x ≤ k then x else a)
def geOf (k : Nat) : List Nat → Nat → Nat
  | [], a => a
  | x :: xs, a => if k ≤ x then x else geOf k xs a
theorem leOf_append (k : Nat) : ∀ (xs ys : List Nat) (a : Nat), leOf k (xs ++ ys) a = leOf k ys (leOf k xs a)
  | [], ys, a => rfl
  | x :: xs, ys, a => leOf_append k xs ys _
theorem leOf_above (k : Nat) : ∀ (xs : List Nat) (a : Nat), (∀ x ∈ xs, k < x) → leOf k xs a = a
  | [], a, _ => rfl
  | x :: xs, a, h => by
    have := h x List.mem_cons_self
    rw [leOf, if_neg (by omega)]
    exact leOf_above k xs a fun y hy => h y (List.mem_cons_of_mem _ hy)
theorem geOf_append (k : Nat) : ∀ (xs ys : List Nat) (a : Nat), (∀ x ∈ xs, x < k) → geOf k (xs ++ ys) a = geOf k ys a
  | [], ys, a, _ => rfl
  | x :: xs, ys, a, h => by
    have := h x List.mem_cons_self
    rw [List.cons_append, geOf, if_neg (by omega)]
    exact geOf_append k xs ys a fun y hy => h y (List.mem_cons_of_mem _ hy)
theorem ends_parts {l : List UInt8} {k : Nat} (h : Reach l k) (hk : k < l.length) : ∃ A B, endsOf l = A ++ k :: (k + (readP l k).w) :: B ∧ (∀ x ∈ A, x < k) ∧ (∀ x ∈ B, k + (readP l k).w < x) := by
  obtain ⟨pre, e, g1, g2⟩ := reach_parts h
  have hw := readP_w hk
  by_cases he : k + (readP l k).w < l.length
  · refine ⟨pre.map Pc.at_, (from_ l (k + (readP l k).w + (readP l (k + (readP l k).w)).w)).map Pc.at_ ++ [l.length], ?_, ?_, ?_⟩
    · rw [endsOf, e, from_cons hk, from_cons he]
      simp [readP_at]
    · intro x hx
      obtain ⟨q, hq, rfl⟩ := List.mem_map.1 hx
      rcases g1 q hq with g | g
      · exact g
      · omega
    · intro x hx
      have hw2 := readP_w he
      rcases List.mem_append.1 hx with hx | hx
      · obtain ⟨q, hq, rfl⟩ := List.mem_map.1 hx
        obtain ⟨a, b, e2⟩ := List.append_of_mem hq
        have := (from_split l l.length _ (by omega) a q b e2).1
        omega
      · rw [List.mem_singleton.1 hx]; exact he
  · have he2 : k + (readP l k).w = l.length := by omega
    refine ⟨pre.map Pc.at_, [], ?_, ?_, by simp⟩
    · rw [endsOf, e, from_cons hk, from_nil he]
      simp [readP_at, he2]
    · intro x hx
      obtain ⟨q, hq, rfl⟩ := List.mem_map.1 hx
      rcases g1 q hq with g | g
      · exact g
      · omega
theorem around_within {l : List UInt8} {k i : Nat} (hk : k ≤ l.length) (h : Within l k i) : leOf k (endsOf l) 0 = i ∧ geOf k (endsOf l) 0 = i + (readP l i).w := by
  obtain ⟨hr, hi, _, _⟩ := within_reach hk h
  obtain ⟨h1, h2, _⟩ := h
  obtain ⟨A, B, e, hA, hB⟩ := ends_parts hr hi
  rw [e]
  constructor
  · rw [leOf_append, leOf, if_pos (by omega), leOf, if_neg (by omega)]
    exact leOf_above k B i fun x hx => by have := hB x hx; omega
  · rw [geOf_append k A _ _ (fun x hx => by have := hA x hx; omega), geOf, if_neg (by omega), geOf, if_pos (by omega)]
theorem around_bound {l : List UInt8} {k : Nat} (hk : k ≤ l.length) (h : ¬ ∃ i, Within l k i) : leOf k (endsOf l) 0 = k ∧ geOf k (endsOf l) 0 = k := by
  have h' : k = l.length ∨ Reach l k := Classical.byContradiction fun hn => h ((within_iff hk).2 hn)
  by_cases e : k = l.length
  · subst e
    constructor
    · rw [endsOf, leOf_append, leOf, if_pos (Nat.le_refl _)]; rfl
    · rw [endsOf, geOf_append _ _ _ _ (fun x hx => ?_), geOf, if_pos (Nat.le_refl _)]
      obtain ⟨q, hq, rfl⟩ := List.mem_map.1 hx
      exact (reach_of_mem hq).2.1
  · have hr : Reach l k := h'.resolve_left e
    have hw := readP_w (l := l) (k := k) (by omega)
    obtain ⟨A, B, e, hA, hB⟩ := ends_parts hr (by omega)
    rw [e]
    constructor
    · rw [leOf_append, leOf, if_pos (Nat.le_refl _), leOf, if_neg (by omega)]
      exact leOf_above k B k fun x hx => by have := hB x hx; omega
    · rw [geOf_append k A _ _ (fun x hx => hA x hx), geOf, if_pos (Nat.le_refl _)]
theorem mem_ends {l : List UInt8} {k : Nat} (hk : k ≤ l.length) : k ∈ endsOf l ↔ ¬ ∃ i, Within l k i := by
  rw [within_iff hk, Classical.not_not, endsOf, List.mem_append, List.mem_singleton]
  constructor
  · rintro (h | h)
    · obtain ⟨q, hq, rfl⟩ := List.mem_map.1 h
      exact .inr (reach_of_mem hq).1
    · exact .inl h
  · rintro (h | h)
    · exact .inr h
    · rcases Nat.lt_or_ge k l.length with g | g
      · exact .inl (List.mem_map.2 ⟨_, reach_mem h g, readP_at l k⟩)
      · exact .inr (by omega)
theorem ends_le {l : List UInt8} {x : Nat} (h : x ∈ endsOf l) : x ≤ l.length := by
  rw [endsOf, List.mem_append, List.mem_singleton] at h
  rcases h with h | h
  · obtain ⟨q, hq, rfl⟩ := List.mem_map.1 h
    exact Nat.le_of_lt (reach_of_mem hq).2.1
  · omega
end Go.Eng

/-
  Plain facts: pieces of a text's beginning; a text's pieces as texts; from the end on. No condition.
-/
set_option linter.all false
namespace Go.Eng
open Go
theorem begins_take {l : List UInt8} {c n : Nat} (h : begins (l.take n) c) : begins l c := by
  obtain ⟨h1, h2⟩ := h
  simp only [List.length_take] at h1
  refine ⟨by omega, fun k hk => ?_⟩
  rw [← h2 k hk]
  simp only [nb, gb, List.getD_eq_getElem?_getD, List.length_take]
  rw [List.getElem?_take_of_lt (by omega)]
theorem begins_of_take {l : List UInt8} {c n : Nat} (h : begins l c) (hn : wd c ≤ n) : begins (l.take n) c := by
  obtain ⟨h1, h2⟩ := h
  refine ⟨by simp only [List.length_take]; omega, fun k hk => ?_⟩
  rw [← h2 k hk]
  simp only [nb, gb, List.getD_eq_getElem?_getD, List.length_take]
  rw [List.getElem?_take_of_lt (by omega)]
theorem read_take {l : List UInt8} {k n : Nat} (hk : k + (readP l k).w ≤ n) (hn : n ≤ l.length) (hkl : k < l.length) : readP (l.take n) k = readP l k := by
  have hw := readP_w hkl
  have hd : (l.take n).drop k = (l.drop k).take (n - k) := by rw [List.drop_take]
  have hlen : ((l.drop k).take (n - k)).length = n - k := by simp; omega
  have key : dl ((l.drop k).take (n - k)) = dl (l.drop k) := by
    rcases dl_cases (l.drop k) (by simp; omega) with ⟨h1, h2, h3⟩ | ⟨h1, h2⟩
    · have hwd : (readP l k).w = wd (dl (l.drop k)).1 := by rw [readP_w_eq, h2]
      rw [dl_of_begins h1 (begins_of_take h3 (by omega)), ← h2]
    · rw [h1]
      rcases dl_cases ((l.drop k).take (n - k)) (by omega) with ⟨g1, _, g3⟩ | ⟨g1, _⟩
      · exact absurd (begins_take g3) (h2 _ g1)
      · exact g1
  unfold readP
  rw [hd, key]
theorem from_take {l : List UInt8} {n : Nat} (hn : n ≤ l.length) : ∀ (pre : List Pc) (k : Nat), from_ l k = pre ++ from_ l n → k ≤ n → from_ (l.take n) k = pre
  | [], k, h, hk => by
    rcases Nat.lt_or_eq_of_le hk with hlt | rfl
    · exfalso
      simp only [List.nil_append] at h
      rw [from_cons (by omega)] at h
      by_cases hnl : n < l.length
      · rw [from_cons hnl] at h
        have := congrArg (fun x => (x.head?.map Pc.at_)) h
        simp only [List.head?_cons, Option.map_some, readP_at, Option.some.injEq] at this
        omega
      · rw [from_nil (k := n) hnl] at h; cases h
    · rw [from_nil (by simp; omega)]
  | p :: pre, k, h, hk => by
    have hkl : k < l.length := by
      rcases Nat.lt_or_ge k l.length with h1 | h1
      · exact h1
      · rw [from_nil (by omega)] at h; cases h
    rw [from_cons hkl, List.cons_append] at h
    simp only [List.cons.injEq] at h
    obtain ⟨rfl, h⟩ := h
    have hw := readP_w hkl
    have hle : k + (readP l k).w ≤ n := by
      rcases Nat.lt_or_ge n (k + (readP l k).w) with hlt | hge
      · exfalso
        -- no piece behind k begins at n
        rcases Nat.lt_or_eq_of_le hn with hnl | hnl
        · have hm : readP l n ∈ from_ l (k + (readP l k).w) := by rw [h, from_cons hnl]; exact List.mem_append_right _ List.mem_cons_self
          obtain ⟨A, B, e⟩ := List.append_of_mem hm
          have := (from_split l l.length _ (by omega) _ _ _ e).1
          rw [readP_at] at this; omega
        · omega
      · exact hge
    have hlt : k < (l.take n).length := by simp; omega
    rw [from_cons hlt, read_take hle hn hkl, from_take hn pre _ h hle]
theorem pieces_take {l : List UInt8} {n : Nat} {pre : List Pc} (hn : n ≤ l.length) (h : pieces l = pre ++ from_ l n) : pieces (l.take n) = pre := from_take hn pre 0 h (Nat.zero_le _)
/-- a piece's bytes -/
def txt (l : List UInt8) (p : Pc) : List UInt8 := (l.take (p.at_ + p.w)).drop p.at_
theorem txt_len (l : List UInt8) (p : Pc) : (txt l p).length ≤ p.w := by simp [txt]; omega
theorem mem_w {l : List UInt8} {p : Pc} (h : p ∈ pieces l) : p.at_ < l.length ∧ 1 ≤ p.w ∧ p.w ≤ 4 ∧ p.at_ + p.w ≤ l.length := by
  obtain ⟨_, h2, h3⟩ := reach_of_mem h
  have := readP_w h2
  rw [← h3] at this
  omega
def mendOf (l w : List UInt8) (ps : List Pc) : List UInt8 := ps.flatMap fun p => if p.b then w else txt l p
theorem mendOf_snoc (l w : List UInt8) (ps : List Pc) (p : Pc) : mendOf l w (ps ++ [p]) = mendOf l w ps ++ (if p.b then w else txt l p) := by simp [mendOf]
def textsOf (l : List UInt8) (ps : List Pc) : List UInt8 := ps.flatMap (txt l)
theorem textsOf_snoc (l : List UInt8) (ps : List Pc) (p : Pc) : textsOf l (ps ++ [p]) = textsOf l ps ++ txt l p := by simp [textsOf]
/-- where the first so many pieces end -/
def cutK (l : List UInt8) (n : Int) : Nat := if n ≤ 0 then 0 else (endsOf l).getD n.toNat l.length
end Go.Eng

/-
  Plain facts: the pieces so far are the text's beginning; places within a form. No condition.
-/
set_option linter.all false
namespace Go.Eng
open Go
theorem texts_from {l : List UInt8} {n : Nat} (hn : n ≤ l.length) : ∀ (pre : List Pc) (k : Nat), from_ l k = pre ++ from_ l n → k ≤ n → textsOf l pre = (l.take n).drop k
  | [], k, h, hk => by
    have e := from_take hn [] k h hk
    rcases Nat.lt_or_eq_of_le hk with hlt | rfl
    · rw [from_cons (by simp; omega)] at e; cases e
    · simp [textsOf]
  | p :: pre, k, h, hk => by
    have hkl : k < l.length := by
      rcases Nat.lt_or_ge k l.length with h1 | h1
      · exact h1
      · rw [from_nil (by omega)] at h; cases h
    have h0 := from_take hn (p :: pre) k h hk
    rw [from_cons hkl, List.cons_append] at h
    simp only [List.cons.injEq] at h
    obtain ⟨rfl, h⟩ := h
    have hw := readP_w hkl
    have hle : k + (readP l k).w ≤ n := by
      have hkn : k < (l.take n).length := by
        rcases Nat.lt_or_ge k (l.take n).length with g | g
        · exact g
        · rw [from_nil (by omega)] at h0; cases h0
      rw [from_cons hkn] at h0
      have h1 := readP_w hkn
      simp only [List.cons.injEq] at h0
      have h2 : (l.take n).length ≤ n := by simp; omega
      rw [h0.1] at h1
      omega
    have ih := texts_from hn pre _ h hle
    have e : textsOf l (readP l k :: pre) = txt l (readP l k) ++ textsOf l pre := by simp [textsOf]
    rw [e, ih, txt, readP_at]
    have h3 : (l.take n).drop k = ((l.take n).take (k + (readP l k).w)).drop k ++ (l.take n).drop (k + (readP l k).w) := by
      rw [← List.take_append_drop (k + (readP l k).w) (l.take n)]
      rw [List.drop_append_of_le_length (by simp; omega)]
      simp
    rw [h3, List.take_take, Nat.min_eq_left hle]
theorem texts_take {l : List UInt8} {n : Nat} {pre : List Pc} (hn : n ≤ l.length) (h : pieces l = pre ++ from_ l n) : textsOf l pre = l.take n := by
  have := texts_from hn pre 0 h (Nat.zero_le _)
  rwa [List.drop_zero] at this
theorem texts_all (l : List UInt8) : textsOf l (pieces l) = l := by
  have := texts_take (l := l) (pre := pieces l) (Nat.le_refl _) (by rw [from_nil (by omega), List.append_nil])
  rwa [List.take_length] at this
/-- a byte within a form begins no form -/
theorem within_broken {l : List UInt8} {k i : Nat} (hk : k < l.length) (h1 : k < i) (h2 : i < k + (readP l k).w) : readP l i = ⟨i, 1, 65533, true⟩ := by
  have hw := readP_w hk
  have hc : 128 ≤ gb (l.drop k) (i - k) ∧ gb (l.drop k) (i - k) < 192 := tail_cont (by simp; omega) (by omega) (by rw [← readP_w_eq]; omega)
  have hg : gb (l.drop k) (i - k) = gb (l.drop i) 0 := by
    simp only [gb, List.getD_eq_getElem?_getD, List.getElem?_drop]
    rw [show k + (i - k) = i by omega, Nat.add_zero]
  unfold readP
  by_cases hd : dl (l.drop i) = (65533, 1)
  · rw [if_pos hd]
  · exfalso
    have := head_lead (l := l.drop i) (by simp; omega) hd
    omega
end Go.Eng

/-
  Plain facts on the seam of two texts. No condition.
-/
set_option linter.all false
namespace Go.Eng
open Go
theorem nb_cont (l : List UInt8) (k : Nat) : (decide (k < l.length) && nb l k / 64 == 2) = (nb l k / 64 == 2) := by
  by_cases h : k < l.length
  · simp [h]
  · have : nb l k = 0 := by simp [nb, gb, List.getD_eq_getElem?_getD, List.getElem?_eq_none (Nat.le_of_not_lt h)]
    rw [this]; simp
/-- decoding looks at four bytes -/
theorem dl_nb {A B : List UInt8} (h : ∀ k, k < 4 → nb A k = nb B k) : dl A = dl B := by
  have h0 := h 0 (by omega)
  have h1 := h 1 (by omega)
  have h2 := h 2 (by omega)
  have h3 := h 3 (by omega)
  unfold dl
  simp only [nb_cont]
  simp only [h0, h1, h2, h3]
theorem nb_take {l : List UInt8} {n k : Nat} (h : k < n) : nb (l.take n) k = nb l k := by
  simp [nb, gb, List.getD_eq_getElem?_getD, List.getElem?_take_of_lt h]
/-- a cut of a text, and what is read there -/
theorem cut_read {L : List UInt8} {off n j : Nat} (h : j + 4 ≤ n) : (readP ((L.drop off).take n) j).w = (readP L (off + j)).w ∧ (readP ((L.drop off).take n) j).b = (readP L (off + j)).b := by
  have e : dl (((L.drop off).take n).drop j) = dl (L.drop (off + j)) := by
    refine dl_nb fun k hk => ?_
    rw [nb_drop, nb_take (by omega), nb_drop, nb_drop]
    congr 1; omega
  unfold readP
  rw [e]
  split <;> simp
theorem cut_within {L : List UInt8} {off n j k : Nat} (h : k + 3 ≤ n) (hj : j < k) : Within ((L.drop off).take n) k j ↔ Within L (off + k) (off + j) := by
  obtain ⟨h1, h2⟩ := cut_read (L := L) (off := off) (n := n) (j := j) (by omega)
  unfold Within
  rw [h1, h2]
  exact ⟨fun ⟨a, b, c⟩ => ⟨by omega, by omega, c⟩, fun ⟨a, b, c⟩ => ⟨by omega, by omega, c⟩⟩
/-- the text about a seam -/
def about (a b : List UInt8) : List UInt8 := a.drop (a.length - 3) ++ b.take 3
theorem about_eq (a b : List UInt8) : about a b = ((a ++ b).drop (a.length - 3)).take ((a.drop (a.length - 3)).length + 3) := by
  rw [about, List.drop_append_of_le_length (by omega), List.take_length_add_append]
theorem seam_yes {a b : List UInt8} {i : Nat} (h : Within (a ++ b) a.length i) : a.length - 3 ≤ i ∧ Within (about a b) (a.drop (a.length - 3)).length (i - (a.length - 3)) ∧
    (readP (about a b) (i - (a.length - 3))).w = (readP (a ++ b) i).w ∧ i < a.length ∧ i + (readP (a ++ b) i).w ≤ (a ++ b).length := by
  obtain ⟨h1, h2, h3, h4⟩ := within_reach (by simp) h
  have h5 := readP_w h2
  have hl : (a.drop (a.length - 3)).length = a.length - (a.length - 3) := by simp
  have hi := h.1
  have hb : a.length - 3 ≤ i := by omega
  refine ⟨hb, ?_, ?_, hi, h5.2.2⟩
  · rw [about_eq]
    refine (cut_within (by omega) (by omega)).2 ?_
    rw [show a.length - 3 + (a.drop (a.length - 3)).length = a.length by omega, show a.length - 3 + (i - (a.length - 3)) = i by omega]
    exact h
  · rw [about_eq, (cut_read (by omega)).1, show a.length - 3 + (i - (a.length - 3)) = i by omega]
theorem seam_no {a b : List UInt8} (h : ¬ ∃ i, Within (a ++ b) a.length i) : ¬ ∃ j, Within (about a b) (a.drop (a.length - 3)).length j := by
  rintro ⟨j, hj⟩
  have hl : (a.drop (a.length - 3)).length = a.length - (a.length - 3) := by simp
  have hlt := hj.1
  rw [about_eq] at hj
  have := (cut_within (by omega) hlt).1 hj
  rw [show a.length - 3 + (a.drop (a.length - 3)).length = a.length by omega] at this
  exact h ⟨_, this⟩
/-- a piece over a place is a form that the place is within -/
theorem over_within {L : List UInt8} {k : Nat} {p : Pc} (hp : p ∈ pieces L) (h1 : p.at_ < k) (h2 : k < p.at_ + p.w) : Within L k p.at_ := by
  obtain ⟨_, _, h⟩ := reach_of_mem hp
  refine ⟨h1, by rw [← h]; exact h2, ?_⟩
  rw [← h]
  cases hb : p.b with
  | false => rfl
  | true =>
    rw [h] at hb
    have := readP_b hb
    rw [← h] at this
    omega
end Go.Eng

