/-
  A walk's engine, first part: what is known of a frame's slots and of the heap, kept apart from the worlds themselves, and the rules for code. No condition.
-/
import Derived.RangeFuncNested
import Derived.RangeFuncBound
import Derived.RangeFuncCalls
import Derived.RangeFuncLeaves
import Derived.Below
import Derived.TacticsIn
import Derived.KernelRfl
import Derived.Shelf.Abstract
set_option linter.all false
namespace Go.Eng
open Go Go.RowKit

/-! ### slots -/
abbrev Env := List (Nat × Value)
def Env.get : Env → Nat → Option Value
  | [], _ => none
  | (k, v) :: l, t => bif Nat.beq k t then some v else Env.get l t
structure Env.ok (n : Nat) (r : Env) (tmps : Array Value) : Prop where
  size : tmps.size = n
  at_ : ∀ t v, r.get t = some v → tmps[t]? = some v
def Env.ev (r : Env) : Operand → Option Value
  | .tmp t => r.get t
  | .const v => some v
  | .global g => some (.pointer (some ⟨g, 0, none⟩))
  | .func f => some (.func (.func f) #[] #[])
def Env.evs (r : Env) : List Operand → Option (List Value)
  | [] => some []
  | o :: l => match r.ev o, r.evs l with
    | some v, some vs => some (v :: vs)
    | _, _ => none

theorem Env.ok.ev {n : Nat} {r : Env} {tmps : Array Value} (h : r.ok n tmps) {o : Operand} {v : Value} (he : r.ev o = some v) (ds : List Deferred) : (Act.mk tmps ds).eval o = v := by
  cases o with
  | tmp t =>
    have := h.at_ t v he
    simp [Act.eval, Array.getD_eq_getD_getElem?, this]
  | const x => simpa [Env.ev, Act.eval] using he
  | global g => simpa [Env.ev, Act.eval] using he
  | func f => simpa [Env.ev, Act.eval] using he
theorem Env.ok.evs {n : Nat} {r : Env} {tmps : Array Value} (h : r.ok n tmps) (ds : List Deferred) : ∀ {l : List Operand} {vs : List Value}, r.evs l = some vs → l.map (Act.mk tmps ds).eval = vs
  | [], vs, he => by simpa [Env.evs] using he
  | o :: l, vs, he => by
    simp only [Env.evs] at he
    cases h1 : r.ev o with
    | none => simp [h1] at he
    | some v =>
      cases h2 : Env.evs r l with
      | none => simp [h1, h2] at he
      | some ws =>
        simp [h1, h2] at he
        subst he
        simp [h.ev h1, h.evs ds h2]
theorem Env.ok.put {n : Nat} {r : Env} {tmps : Array Value} (h : r.ok n tmps) {d : Nat} (hd : d < n) (v : Value) : Env.ok n ((d, v) :: r) (tmps.setIfInBounds d v) := by
  refine ⟨by simp [h.size], fun t u ht => ?_⟩
  simp only [Env.get] at ht
  cases hb : Nat.beq d t with
  | true =>
    have e := Nat.eq_of_beq_eq_true hb
    subst e
    simp at ht
    subst ht
    simp [h.size, hd]
  | false =>
    have e := Nat.ne_of_beq_eq_false hb
    simp [hb] at ht
    rw [Array.getElem?_setIfInBounds_ne e]
    exact h.at_ t u ht
/-- r' says no more than r -/
def Env.Sub (r' r : Env) : Prop := ∀ p ∈ r', r.get p.1 = some p.2
theorem Env.Sub.nil {r : Env} : Env.Sub [] r := fun _ h => by cases h
theorem Env.Sub.cons {r r' : Env} {t : Nat} {v : Value} (h : r.get t = some v) (h' : Env.Sub r' r) : Env.Sub ((t, v) :: r') r := by
  intro p hp
  cases hp with
  | head => exact h
  | tail _ hp => exact h' p hp
theorem Env.get_mem {r : Env} : ∀ {t : Nat} {v : Value}, r.get t = some v → (t, v) ∈ r := by
  induction r with
  | nil => intro t v h; simp [Env.get] at h
  | cons p r ih =>
    intro t v h
    obtain ⟨k, u⟩ := p
    simp only [Env.get] at h
    cases hb : Nat.beq k t with
    | true =>
      simp [hb] at h
      have e := Nat.eq_of_beq_eq_true hb
      subst e; subst h
      exact List.mem_cons_self
    | false =>
      simp [hb] at h
      exact List.mem_cons_of_mem _ (ih h)
theorem Env.Sub.ok {n : Nat} {r r' : Env} {tmps : Array Value} (hs : Env.Sub r' r) (h : r.ok n tmps) : r'.ok n tmps :=
  ⟨h.size, fun t v ht => h.at_ t v (hs _ (Env.get_mem ht))⟩

/-! ### the heap -/
abbrev Mem := Nat → Option Obj
/-- what is owned: a block, whole; a slice of one's own that may still grow (nil where a = none) -/
inductive Item where
  | blk (b : Nat) (o : Obj)
  | row (a : Option Addr) (cap : Nat) (T : TypeId) (sz : Nat) (es : List (List Value))
def Item.foot : Item → List Nat
  | .blk b _ => [b]
  | .row (some a) _ _ _ _ => [a.block]
  | .row none _ _ _ _ => []
def Item.holds (w : World) : Item → Prop
  | .blk b o => w.heap[b]? = some o
  | .row none cap _ _ es => es = [] ∧ cap = 0
  | .row (some a) cap T sz es => ∃ arr, ∃ fz : Nat × Nat, a = ⟨a.block, 0, none⟩ ∧ w.heap[a.block]? = some (.cells arr T fz) ∧ arr.size = cap * sz ∧ es.length ≤ cap ∧
      arr.toList.take (es.length * sz) = es.flatten ∧ (∀ e ∈ es, e.length = sz) ∧ (fz.1 = fz.2 ∨ arr.size ≤ fz.1)
abbrev SHeap := List Item
def SHeap.foot (H : SHeap) : List Nat := H.flatMap Item.foot
structure Sat (w0 : World) (m : Mem) (H : SHeap) (w : World) : Prop where
  os : w.os = w0.os
  tape : w.tape = w0.tape
  output : w.output = w0.output
  size : w0.heap.size ≤ w.heap.size
  pers : ∀ b o, m b = some o → w.heap[b]? = some o
  own : ∀ i ∈ H, i.holds w
  sep : (SHeap.foot H).Nodup
  free : ∀ b ∈ SHeap.foot H, m b = none
/-- all that lies in a world -/
def memOf (w : World) : Mem := fun b => w.heap[b]?
theorem Sat.start (w : World) : Sat w (memOf w) [] w :=
  ⟨rfl, rfl, rfl, Nat.le_refl _, fun _ _ h => h, (fun _ h => by cases h), List.nodup_nil, (fun _ h => by cases h)⟩
theorem Sat.below {w w' : World} {H : SHeap} (h : Sat w (memOf w) H w') : Below w.heap.size w w' :=
  ⟨h.os, h.tape, h.output, h.size, fun k hk => by
    have := h.pers k (w.heap[k]) (by simp [memOf, hk])
    rw [this]; simp [hk]⟩
theorem Item.holds_of_same {i : Item} {w w' : World} (h : i.holds w) (hs : ∀ b ∈ i.foot, w'.heap[b]? = w.heap[b]?) : i.holds w' := by
  cases i with
  | blk b o => exact (hs b (by simp [Item.foot])).trans h
  | row a cap T sz es =>
    cases a with
    | none => exact h
    | some a =>
      obtain ⟨arr, fz, h1, h2, h3⟩ := h
      exact ⟨arr, fz, h1, (hs a.block (by simp [Item.foot])).trans h2, h3⟩
theorem Item.foot_lt {i : Item} {w : World} (h : i.holds w) : ∀ b ∈ i.foot, b < w.heap.size := by
  intro b hb
  cases i with
  | blk b' o =>
    simp [Item.foot] at hb
    subst hb
    exact (Array.getElem?_eq_some_iff.1 h).1
  | row a cap T sz es =>
    cases a with
    | none => simp [Item.foot] at hb
    | some a =>
      simp [Item.foot] at hb
      subst hb
      obtain ⟨arr, fz, _, h2, _⟩ := h
      exact (Array.getElem?_eq_some_iff.1 h2).1
theorem Sat.foot_lt {w0 : World} {m : Mem} {H : SHeap} {w : World} (h : Sat w0 m H w) : ∀ b ∈ SHeap.foot H, b < w.heap.size := by
  intro b hb
  obtain ⟨i, hi, hb'⟩ := List.mem_flatMap.1 hb
  exact Item.foot_lt (h.own i hi) b hb'
/-- only what is not owned has turned: what the rest may rely on -/
theorem Sat.keep {w0 : World} {m : Mem} {H : SHeap} {w w' : World} (h : Sat w0 m H w) (ho : w'.os = w.os) (ht : w'.tape = w.tape) (hu : w'.output = w.output)
    (hz : w.heap.size ≤ w'.heap.size) (hs : ∀ b, b < w.heap.size → w'.heap[b]? = w.heap[b]?) : Sat w0 m H w' :=
  ⟨ho.trans h.os, ht.trans h.tape, hu.trans h.output, Nat.le_trans h.size hz,
    fun b o hb => by have := h.pers b o hb; rw [hs b (Array.getElem?_eq_some_iff.1 this).1]; exact this,
    fun i hi => Item.holds_of_same (h.own i hi) (fun b hb => hs b (Item.foot_lt (h.own i hi) b hb)), h.sep, h.free⟩
theorem Sat.below_keep {w0 : World} {m : Mem} {H : SHeap} {w w' : World} (h : Sat w0 m H w) (hb : Below w.heap.size w w') : Sat w0 m H w' :=
  h.keep hb.os hb.tape hb.output hb.size hb.block
theorem Sat.drew {w0 : World} {m : Mem} {H : SHeap} {w : World} (h : Sat w0 m H w) : Sat w0 m H { w with drawn := w.drawn + 1 } :=
  h.keep rfl rfl rfl (Nat.le_refl _) (fun _ _ => rfl)
/-- a new block -/
theorem Sat.alloc {w0 : World} {m : Mem} {H : SHeap} {w : World} (h : Sat w0 m H w) (o : Obj) : Sat w0 m (.blk w.heap.size o :: H) (w.alloc o) := by
  have k : Sat w0 m H (w.alloc o) := h.keep rfl rfl rfl (by simp) (fun b hb => Below.heap_alloc w o b hb)
  refine ⟨k.os, k.tape, k.output, k.size, k.pers, ?_, ?_, ?_⟩
  · intro i hi
    cases hi with
    | head => exact World.alloc_heap_new w o
    | tail _ hi => exact k.own i hi
  · simp only [SHeap.foot, List.flatMap_cons, Item.foot, List.singleton_append, List.nodup_cons]
    exact ⟨fun hb => absurd (h.foot_lt _ hb) (Nat.lt_irrefl _), h.sep⟩
  · intro b hb
    simp only [SHeap.foot, List.flatMap_cons, Item.foot, List.singleton_append, List.mem_cons] at hb
    rcases hb with rfl | hb
    · cases hm : m w.heap.size with
      | none => rfl
      | some o' => exact absurd (Array.getElem?_eq_some_iff.1 (h.pers _ _ hm)).1 (Nat.lt_irrefl _)
    · exact h.free b hb
/-- permutation, and letting go -/
theorem Sat.perm {w0 : World} {m : Mem} {H H' : SHeap} {w : World} (h : Sat w0 m H w) (hp : List.Perm H H') : Sat w0 m H' w := by
  have hf : List.Perm (SHeap.foot H) (SHeap.foot H') := List.Perm.flatMap_right _ hp
  exact ⟨h.os, h.tape, h.output, h.size, h.pers, fun i hi => h.own i (hp.mem_iff.2 hi), (hf.nodup_iff).1 h.sep, fun b hb => h.free b (hf.mem_iff.2 hb)⟩
theorem Sat.drop {w0 : World} {m : Mem} {i : Item} {H : SHeap} {w : World} (h : Sat w0 m (i :: H) w) : Sat w0 m H w := by
  have hs := h.sep
  simp only [SHeap.foot, List.flatMap_cons, List.nodup_append] at hs
  exact ⟨h.os, h.tape, h.output, h.size, h.pers, fun j hj => h.own j (List.mem_cons_of_mem _ hj), hs.2.1,
    fun b hb => h.free b (by simp only [SHeap.foot, List.flatMap_cons, List.mem_append]; exact .inr hb)⟩
/-- an owned block is written: whatever the world has become, the rest lies as it lay -/
theorem Sat.turn {w0 : World} {m : Mem} {i j : Item} {H : SHeap} {w w' : World} (h : Sat w0 m (i :: H) w) (ho : w'.os = w.os) (ht : w'.tape = w.tape) (hu : w'.output = w.output)
    (hz : w.heap.size ≤ w'.heap.size) (hs : ∀ b, b < w.heap.size → b ∉ i.foot → w'.heap[b]? = w.heap[b]?) (hj : j.holds w')
    (hf : ∀ b ∈ j.foot, b ∈ i.foot ∨ w.heap.size ≤ b) (hn : j.foot.Nodup) : Sat w0 m (j :: H) w' := by
  have hsep := h.sep
  simp only [SHeap.foot, List.flatMap_cons, List.nodup_append] at hsep
  have hfoot : ∀ b ∈ SHeap.foot H, b ∉ i.foot := fun b hb hi => hsep.2.2 b hi b hb rfl
  have hd := h.drop
  refine ⟨ho.trans h.os, ht.trans h.tape, hu.trans h.output, Nat.le_trans h.size hz, ?_, ?_, ?_, ?_⟩
  · intro b o hb
    have := h.pers b o hb
    rw [hs b (Array.getElem?_eq_some_iff.1 this).1 ?_]
    · exact this
    · intro hi
      have := h.free b (by simp only [SHeap.foot, List.flatMap_cons, List.mem_append]; exact .inl hi)
      rw [hb] at this; cases this
  · intro x hx
    cases hx with
    | head => exact hj
    | tail _ hx =>
      refine Item.holds_of_same (hd.own x hx) (fun b hb => ?_)
      have hb' : b ∈ SHeap.foot H := List.mem_flatMap.2 ⟨x, hx, hb⟩
      exact hs b (hd.foot_lt b hb') (hfoot b hb')
  · simp only [SHeap.foot, List.flatMap_cons, List.nodup_append]
    refine ⟨hn, hsep.2.1, fun a ha b hb e => ?_⟩
    subst e
    rcases hf a ha with hi | hge
    · exact hfoot a hb hi
    · exact absurd (hd.foot_lt a hb) (by omega)
  · intro b hb
    simp only [SHeap.foot, List.flatMap_cons, List.mem_append] at hb
    rcases hb with hb | hb
    · rcases hf b hb with hi | hge
      · exact h.free b (by simp only [SHeap.foot, List.flatMap_cons, List.mem_append]; exact .inl hi)
      · cases hm : m b with
        | none => rfl
        | some o' => exact absurd (Array.getElem?_eq_some_iff.1 (h.pers _ _ hm)).1 (by omega)
    · exact hd.free b hb
/-- what was owned is let stand for good -/
def Mem.ins (m : Mem) (b : Nat) (o : Obj) : Mem := fun c => if c = b then some o else m c
def Mem.le (m m' : Mem) : Prop := ∀ b o, m b = some o → m' b = some o
theorem Mem.le.refl (m : Mem) : m.le m := fun _ _ h => h
theorem Mem.le.trans {a b c : Mem} (h : a.le b) (k : b.le c) : a.le c := fun x o hx => k x o (h x o hx)
theorem Sat.persist {w0 : World} {m : Mem} {b : Nat} {o : Obj} {H : SHeap} {w : World} (h : Sat w0 m (.blk b o :: H) w) : Sat w0 (m.ins b o) H w ∧ m.le (m.ins b o) := by
  have hd := h.drop
  have hsep := h.sep
  simp only [SHeap.foot, List.flatMap_cons, Item.foot, List.singleton_append, List.nodup_cons] at hsep
  have hfree := h.free b (by simp [SHeap.foot, Item.foot])
  refine ⟨⟨hd.os, hd.tape, hd.output, hd.size, ?_, hd.own, hd.sep, ?_⟩, ?_⟩
  · intro c o' hc
    simp only [Mem.ins] at hc
    split at hc
    · rename_i e; subst e; cases hc; exact h.own _ List.mem_cons_self
    · exact h.pers c o' hc
  · intro c hc
    simp only [Mem.ins]
    split
    · rename_i e; subst e; exact absurd hc hsep.1
    · exact hd.free c hc
  · intro c o' hc
    simp only [Mem.ins]
    split
    · rename_i e; subst e; rw [hfree] at hc; cases hc
    · exact hc
end Go.Eng
namespace Go.Eng
/-! a number that is a natural one -/
theorem natz (a : Nat) : (a : Int) = (a : Int) := rfl
theorem natz_add {x y : Int} {a b : Nat} (h : x = (a : Int)) (h' : y = (b : Int)) : x + y = ((a + b : Nat) : Int) := by omega
theorem natz_sub {x y : Int} {a b : Nat} (h : x = (a : Int)) (h' : y = (b : Int)) (hle : b ≤ a) : x - y = ((a - b : Nat) : Int) := by omega
theorem natz0 : (0 : Int) = ((0 : Nat) : Int) := rfl
theorem natz1 : (1 : Int) = ((1 : Nat) : Int) := rfl
theorem natz2 : (2 : Int) = ((2 : Nat) : Int) := rfl
theorem natz3 : (3 : Int) = ((3 : Nat) : Int) := rfl
theorem natz4 : (4 : Int) = ((4 : Nat) : Int) := rfl
theorem natz8 : (8 : Int) = ((8 : Nat) : Int) := rfl
end Go.Eng
