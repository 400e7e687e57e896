/-
  Parts of a walk, joined. No condition.
-/
import Derived.RangeFuncNested
import Derived.RangeFuncBound
import Derived.RangeFuncCalls
import Derived.RangeFuncLeaves
import Derived.Below
import Derived.TacticsIn
import Derived.KernelRfl
import Derived.Shelf.Abstract
import Derived.Laws.Strings
import Derived.IntWalk
import Derived.Laws.Cells
import Derived.Laws.CopyRow
import Derived.Deep.AppendSrc
import Derived.Laws.BytesString
import Derived.Laws.Tables
set_option linter.all false
set_option maxRecDepth 100000
set_option maxHeartbeats 4000000
namespace Go.Proofs.YtgckeelnhafgaaaGreatDoor
end Go.Proofs.YtgckeelnhafgaaaGreatDoor
open Go.Proofs Go.Proofs.YtgckeelnhafgaaaGreatDoor
namespace Go.Eng
open Go Go.RowKit
abbrev Env := List (Nat × Value)
def Env.get : Env → Nat → Option Value
 | [], _ => none
 | (k, v) :: l, t => bif Nat.beq k t then some v else Env.get l t
structure Env.ok (n : Nat) (r : Env) (tmps : Array Value) : Prop where
 size : tmps.size = n
 at_ : ∀ t v, r.get t = some v → tmps[t]? = some v
def Env.ev (r : Env) : Operand → Option Value
 | .tmp t => r.get t
 | .const v => some v
 | .global g => some (.pointer (some ⟨g, 0, none⟩))
 | .func f => some (.func (.func f) #[] #[])
def Env.evs (r : Env) : List Operand → Option (List Value)
 | [] => some []
 | o :: l => match r.ev o, r.evs l with
  | some v, some vs => some (v :: vs)
  | _, _ => none
theorem Env.ok.ev {n : Nat} {r : Env} {tmps : Array Value} (h : r.ok n tmps) {o : Operand} {v : Value} (he : r.ev o = some v) (ds : List Deferred) : (Act.mk tmps ds).eval o = v := by
 cases o with
 | tmp t =>
  have := h.at_ t v he
  simp [Act.eval, Array.getD_eq_getD_getElem?, this]
 | const x => simpa [Env.ev, Act.eval] using he
 | global g => simpa [Env.ev, Act.eval] using he
 | func f => simpa [Env.ev, Act.eval] using he
theorem Env.ok.evs {n : Nat} {r : Env} {tmps : Array Value} (h : r.ok n tmps) (ds : List Deferred) : ∀ {l : List Operand} {vs : List Value}, r.evs l = some vs → l.map (Act.mk tmps ds).eval = vs
 | [], vs, he => by simpa [Env.evs] using he
 | o :: l, vs, he => by
  simp only [Env.evs] at he
  cases h1 : r.ev o with
  | none => simp [h1] at he
  | some v =>
   cases h2 : Env.evs r l with
   | none => simp [h1, h2] at he
   | some ws =>
    simp [h1, h2] at he
    subst he
    simp [h.ev h1, h.evs ds h2]
theorem Env.ok.put {n : Nat} {r : Env} {tmps : Array Value} (h : r.ok n tmps) {d : Nat} (hd : d < n) (v : Value) : Env.ok n ((d, v) :: r) (tmps.setIfInBounds d v) := by
 refine ⟨by simp [h.size], fun t u ht => ?_⟩
 simp only [Env.get] at ht
 cases hb : Nat.beq d t with
 | true =>
  have e := Nat.eq_of_beq_eq_true hb
  subst e
  simp at ht
  subst ht
  simp [h.size, hd]
 | false =>
  have e := Nat.ne_of_beq_eq_false hb
  simp [hb] at ht
  rw [Array.getElem?_setIfInBounds_ne e]
  exact h.at_ t u ht
def Env.Sub (r' r : Env) : Prop := ∀ p ∈ r', r.get p.1 = some p.2
theorem Env.Sub.nil {r : Env} : Env.Sub [] r := fun _ h => by cases h
theorem Env.Sub.cons {r r' : Env} {t : Nat} {v : Value} (h : r.get t = some v) (h' : Env.Sub r' r) : Env.Sub ((t, v) :: r') r := by
 intro p hp
 cases hp with
 | head => exact h
 | tail _ hp => exact h' p hp
theorem Env.get_mem {r : Env} : ∀ {t : Nat} {v : Value}, r.get t = some v → (t, v) ∈ r := by
 induction r with
 | nil => intro t v h; simp [Env.get] at h
 | cons p r ih =>
  intro t v h
  obtain ⟨k, u⟩ := p
  simp only [Env.get] at h
  cases hb : Nat.beq k t with
  | true =>
   simp [hb] at h
   have e := Nat.eq_of_beq_eq_true hb
   subst e; subst h
   exact List.mem_cons_self
  | false =>
   simp [hb] at h
   exact List.mem_cons_of_mem _ (ih h)
theorem Env.Sub.ok {n : Nat} {r r' : Env} {tmps : Array Value} (hs : Env.Sub r' r) (h : r.ok n tmps) : r'.ok n tmps :=
 ⟨h.size, fun t v ht => h.at_ t v (hs _ (Env.get_mem ht))⟩
abbrev Mem := Nat → Option Obj
inductive Item where
 | blk (b : Nat) (o : Obj)
 | row (a : Option Addr) (cap : Nat) (T : TypeId) (sz : Nat) (es : List (List Value))
def Item.foot : Item → List Nat
 | .blk b _ => [b]
 | .row (some a) _ _ _ _ => [a.block]
 | .row none _ _ _ _ => []
def Item.holds (w : World) : Item → Prop
 | .blk b o => w.heap[b]? = some o
 | .row none cap _ _ es => es = [] ∧ cap = 0
 | .row (some a) cap T sz es => ∃ arr, ∃ fz : Nat × Nat, a = ⟨a.block, 0, none⟩ ∧ w.heap[a.block]? = some (.cells arr T fz) ∧ arr.size = cap * sz ∧ es.length ≤ cap ∧
   arr.toList.take (es.length * sz) = es.flatten ∧ (∀ e ∈ es, e.length = sz) ∧ (fz.1 = fz.2 ∨ arr.size ≤ fz.1) ∧ (es.length ≤ 9223372036854775807 → cap ≤ 9223372036854775807)
abbrev SHeap := List Item
def SHeap.foot (H : SHeap) : List Nat := H.flatMap Item.foot
structure Sat (w0 : World) (m : Mem) (H : SHeap) (w : World) : Prop where
 os : w.os = w0.os
 tape : w.tape = w0.tape
 output : w.output = w0.output
 size : w0.heap.size ≤ w.heap.size
 pers : ∀ b o, m b = some o → w.heap[b]? = some o
 own : ∀ i ∈ H, i.holds w
 sep : (SHeap.foot H).Nodup
 free : ∀ b ∈ SHeap.foot H, m b = none
def memOf (w : World) : Mem := fun b => w.heap[b]?
theorem Sat.start (w : World) : Sat w (memOf w) [] w :=
 ⟨rfl, rfl, rfl, Nat.le_refl _, fun _ _ h => h, (fun _ h => by cases h), List.nodup_nil, (fun _ h => by cases h)⟩
theorem Sat.below {w w' : World} {H : SHeap} (h : Sat w (memOf w) H w') : Below w.heap.size w w' :=
 ⟨h.os, h.tape, h.output, h.size, fun k hk => by
  have := h.pers k (w.heap[k]) (by simp [memOf, hk])
  rw [this]; simp [hk]⟩
theorem Item.holds_of_same {i : Item} {w w' : World} (h : i.holds w) (hs : ∀ b ∈ i.foot, w'.heap[b]? = w.heap[b]?) : i.holds w' := by
 cases i with
 | blk b o => exact (hs b (by simp [Item.foot])).trans h
 | row a cap T sz es =>
  cases a with
  | none => exact h
  | some a =>
   obtain ⟨arr, fz, h1, h2, h3⟩ := h
   exact ⟨arr, fz, h1, (hs a.block (by simp [Item.foot])).trans h2, h3⟩
theorem Item.foot_lt {i : Item} {w : World} (h : i.holds w) : ∀ b ∈ i.foot, b < w.heap.size := by
 intro b hb
 cases i with
 | blk b' o =>
  simp [Item.foot] at hb
  subst hb
  exact (Array.getElem?_eq_some_iff.1 h).1
 | row a cap T sz es =>
  cases a with
  | none => simp [Item.foot] at hb
  | some a =>
   simp [Item.foot] at hb
   subst hb
   obtain ⟨arr, fz, _, h2, _⟩ := h
   exact (Array.getElem?_eq_some_iff.1 h2).1
theorem Sat.foot_lt {w0 : World} {m : Mem} {H : SHeap} {w : World} (h : Sat w0 m H w) : ∀ b ∈ SHeap.foot H, b < w.heap.size := by
 intro b hb
 obtain ⟨i, hi, hb'⟩ := List.mem_flatMap.1 hb
 exact Item.foot_lt (h.own i hi) b hb'
theorem Sat.keep {w0 : World} {m : Mem} {H : SHeap} {w w' : World} (h : Sat w0 m H w) (ho : w'.os = w.os) (ht : w'.tape = w.tape) (hu : w'.output = w.output)
  (hz : w.heap.size ≤ w'.heap.size) (hs : ∀ b, b < w.heap.size → w'.heap[b]? = w.heap[b]?) : Sat w0 m H w' :=
 ⟨ho.trans h.os, ht.trans h.tape, hu.trans h.output, Nat.le_trans h.size hz,
  fun b o hb => by have := h.pers b o hb; rw [hs b (Array.getElem?_eq_some_iff.1 this).1]; exact this,
  fun i hi => Item.holds_of_same (h.own i hi) (fun b hb => hs b (Item.foot_lt (h.own i hi) b hb)), h.sep, h.free⟩
theorem Sat.below_keep {w0 : World} {m : Mem} {H : SHeap} {w w' : World} (h : Sat w0 m H w) (hb : Below w.heap.size w w') : Sat w0 m H w' :=
 h.keep hb.os hb.tape hb.output hb.size hb.block
theorem Sat.drew {w0 : World} {m : Mem} {H : SHeap} {w : World} (h : Sat w0 m H w) : Sat w0 m H { w with drawn := w.drawn + 1 } :=
 h.keep rfl rfl rfl (Nat.le_refl _) (fun _ _ => rfl)
theorem Sat.alloc {w0 : World} {m : Mem} {H : SHeap} {w : World} (h : Sat w0 m H w) (o : Obj) : Sat w0 m (.blk w.heap.size o :: H) (w.alloc o) := by
 have k : Sat w0 m H (w.alloc o) := h.keep rfl rfl rfl (by simp) (fun b hb => Below.heap_alloc w o b hb)
 refine ⟨k.os, k.tape, k.output, k.size, k.pers, ?_, ?_, ?_⟩
 ·intro i hi
  cases hi with
  | head => exact World.alloc_heap_new w o
  | tail _ hi => exact k.own i hi
 ·simp only [SHeap.foot, List.flatMap_cons, Item.foot, List.singleton_append, List.nodup_cons]
  exact ⟨fun hb => absurd (h.foot_lt _ hb) (Nat.lt_irrefl _), h.sep⟩
 ·intro b hb
  simp only [SHeap.foot, List.flatMap_cons, Item.foot, List.singleton_append, List.mem_cons] at hb
  rcases hb with rfl | hb
  ·cases hm : m w.heap.size with
   | none => rfl
   | some o' => exact absurd (Array.getElem?_eq_some_iff.1 (h.pers _ _ hm)).1 (Nat.lt_irrefl _)
  ·exact h.free b hb
theorem Sat.perm {w0 : World} {m : Mem} {H H' : SHeap} {w : World} (h : Sat w0 m H w) (hp : List.Perm H H') : Sat w0 m H' w := by
 have hf : List.Perm (SHeap.foot H) (SHeap.foot H') := List.Perm.flatMap_right _ hp
 exact ⟨h.os, h.tape, h.output, h.size, h.pers, fun i hi => h.own i (hp.mem_iff.2 hi), (hf.nodup_iff).1 h.sep, fun b hb => h.free b (hf.mem_iff.2 hb)⟩
theorem Sat.drop {w0 : World} {m : Mem} {i : Item} {H : SHeap} {w : World} (h : Sat w0 m (i :: H) w) : Sat w0 m H w := by
 have hs := h.sep
 simp only [SHeap.foot, List.flatMap_cons, List.nodup_append] at hs
 exact ⟨h.os, h.tape, h.output, h.size, h.pers, fun j hj => h.own j (List.mem_cons_of_mem _ hj), hs.2.1,
  fun b hb => h.free b (by simp only [SHeap.foot, List.flatMap_cons, List.mem_append]; exact .inr hb)⟩
theorem Sat.turn {w0 : World} {m : Mem} {i j : Item} {H : SHeap} {w w' : World} (h : Sat w0 m (i :: H) w) (ho : w'.os = w.os) (ht : w'.tape = w.tape) (hu : w'.output = w.output)
  (hz : w.heap.size ≤ w'.heap.size) (hs : ∀ b, b < w.heap.size → b ∉ i.foot → w'.heap[b]? = w.heap[b]?) (hj : j.holds w')
  (hf : ∀ b ∈ j.foot, b ∈ i.foot ∨ w.heap.size ≤ b) (hn : j.foot.Nodup) : Sat w0 m (j :: H) w' := by
 have hsep := h.sep
 simp only [SHeap.foot, List.flatMap_cons, List.nodup_append] at hsep
 have hfoot : ∀ b ∈ SHeap.foot H, b ∉ i.foot := fun b hb hi => hsep.2.2 b hi b hb rfl
 have hd := h.drop
 refine ⟨ho.trans h.os, ht.trans h.tape, hu.trans h.output, Nat.le_trans h.size hz, ?_, ?_, ?_, ?_⟩
 ·intro b o hb
  have := h.pers b o hb
  rw [hs b (Array.getElem?_eq_some_iff.1 this).1 ?_]
  ·exact this
  ·intro hi
   have := h.free b (by simp only [SHeap.foot, List.flatMap_cons, List.mem_append]; exact .inl hi)
   rw [hb] at this; cases this
 ·intro x hx
  cases hx with
  | head => exact hj
  | tail _ hx =>
   refine Item.holds_of_same (hd.own x hx) (fun b hb => ?_)
   have hb' : b ∈ SHeap.foot H := List.mem_flatMap.2 ⟨x, hx, hb⟩
   exact hs b (hd.foot_lt b hb') (hfoot b hb')
 ·simp only [SHeap.foot, List.flatMap_cons, List.nodup_append]
  refine ⟨hn, hsep.2.1, fun a ha b hb e => ?_⟩
  subst e
  rcases hf a ha with hi | hge
  ·exact hfoot a hb hi
  ·exact absurd (hd.foot_lt a hb) (by omega)
 ·intro b hb
  simp only [SHeap.foot, List.flatMap_cons, List.mem_append] at hb
  rcases hb with hb | hb
  ·rcases hf b hb with hi | hge
   ·exact h.free b (by simp only [SHeap.foot, List.flatMap_cons, List.mem_append]; exact .inl hi)
   ·cases hm : m b with
    | none => rfl
    | some o' => exact absurd (Array.getElem?_eq_some_iff.1 (h.pers _ _ hm)).1 (by omega)
  ·exact hd.free b hb
def Mem.ins (m : Mem) (b : Nat) (o : Obj) : Mem := fun c => if c = b then some o else m c
def Mem.le (m m' : Mem) : Prop := ∀ b o, m b = some o → m' b = some o
theorem Mem.le.refl (m : Mem) : m.le m := fun _ _ h => h
theorem Mem.le.trans {a b c : Mem} (h : a.le b) (k : b.le c) : a.le c := fun x o hx => k x o (h x o hx)
theorem Sat.persist {w0 : World} {m : Mem} {b : Nat} {o : Obj} {H : SHeap} {w : World} (h : Sat w0 m (.blk b o :: H) w) : Sat w0 (m.ins b o) H w ∧ m.le (m.ins b o) := by
 have hd := h.drop
 have hsep := h.sep
 simp only [SHeap.foot, List.flatMap_cons, Item.foot, List.singleton_append, List.nodup_cons] at hsep
 have hfree := h.free b (by simp [SHeap.foot, Item.foot])
 refine ⟨⟨hd.os, hd.tape, hd.output, hd.size, ?_, hd.own, hd.sep, ?_⟩, ?_⟩
 ·intro c o' hc
  simp only [Mem.ins] at hc
  split at hc
  ·rename_i e; subst e; cases hc; exact h.own _ List.mem_cons_self
  ·exact h.pers c o' hc
 ·intro c hc
  simp only [Mem.ins]
  split
  ·rename_i e; subst e; exact absurd hc hsep.1
  ·exact hd.free c hc
 ·intro c o' hc
  simp only [Mem.ins]
  split
  ·rename_i e; subst e; rw [hfree] at hc; cases hc
  ·exact hc
end Go.Eng
namespace Go.Eng
theorem natz (a : Nat) : (a : Int) = (a : Int) := rfl
theorem zIW {x y : Int} {a b : Nat} (h : x = (a : Int)) (h' : y = (b : Int)) : x + y = ((a + b : Nat) : Int) := by omega
theorem zJv {x y : Int} {a b : Nat} (h : x = (a : Int)) (h' : y = (b : Int)) (hle : b ≤ a) : x - y = ((a - b : Nat) : Int) := by omega
theorem natz0 : (0 : Int) = ((0 : Nat) : Int) := rfl
theorem natz1 : (1 : Int) = ((1 : Nat) : Int) := rfl
theorem natz2 : (2 : Int) = ((2 : Nat) : Int) := rfl
theorem natz3 : (3 : Int) = ((3 : Nat) : Int) := rfl
theorem natz4 : (4 : Int) = ((4 : Nat) : Int) := rfl
theorem natz8 : (8 : Int) = ((8 : Nat) : Int) := rfl
theorem znz {z : Int} {n : Nat} (h : z = (n : Int) := by (first | with_reducible exact natz _ | with_reducible exact natz0 | with_reducible exact natz1 | with_reducible exact natz2 | with_reducible exact natz3 | with_reducible exact natz4 | with_reducible exact natz8 | (apply zIW; (· first | with_reducible exact natz _ | with_reducible exact natz0 | with_reducible exact natz1 | with_reducible exact natz2 | with_reducible exact natz3 | with_reducible exact natz4 | with_reducible exact natz8); (· first | with_reducible exact natz _ | with_reducible exact natz0 | with_reducible exact natz1 | with_reducible exact natz2 | with_reducible exact natz3 | with_reducible exact natz4 | with_reducible exact natz8)) | (apply zJv; (· first | with_reducible exact natz _ | with_reducible exact natz0 | with_reducible exact natz1 | with_reducible exact natz2 | with_reducible exact natz3 | with_reducible exact natz4 | with_reducible exact natz8); (· first | with_reducible exact natz _ | with_reducible exact natz0 | with_reducible exact natz1 | with_reducible exact natz2 | with_reducible exact natz3 | with_reducible exact natz4 | with_reducible exact natz8); (· omega)) | exact (Int.toNat_of_nonneg (by omega)).symm)) : z = (n : Int) := h
theorem zml {m : Mem} : m.le m := Mem.le.refl m
end Go.Eng
namespace Go.Eng
open Go Go.RowKit
def FW (ro : Option Nat) : Fence := { Fence.wide with round := ro }
theorem jA (ro : Option Nat) (f : FuncId) : (FW ro).fn f := trivial
theorem jV (ro : Option Nat) : (FW ro).depth.isSome = true → 1 ≤ 0 := fun h => by simp [FW, Fence.wide] at h
@[irreducible] def dcd (p : Prop) [Decidable p] : Bool := decide p
theorem y6 (p : Prop) [Decidable p] : dcd p = decide p := by unfold dcd; rfl
theorem zE {p : Prop} [Decidable p] (h : p) : dcd p = true := by rw [y6]; exact decide_eq_true h
theorem zH {p : Prop} [Decidable p] (h : ¬ p) : dcd p = false := by rw [y6]; exact decide_eq_false h
inductive Dfr where
 | mark (D : Nat)
 | fn (f : FuncId) (cap : List Value)
instance : Coe Nat Dfr := ⟨Dfr.mark⟩
def Dfr.call : Dfr → Deferred
 | .mark D => { target := .collected D, args := #[] }
 | .fn f cap => { target := .fn (.func f) cap.toArray, args := #[] }
def marks (ds : List Dfr) : List Deferred := ds.map Dfr.call
section
variable (P : Program) (ro : Option Nat) (n : Nat) (w0 : World)
def WC (c : Code) (Q : Exit → Act → World → Prop) (r : Env) (ds : List Dfr) (m : Mem) (H : SHeap) : Prop :=
 ∀ tmps w, r.ok n tmps → Sat w0 m H w → c.wpIn (FW ro) 0 P Q ⟨tmps, marks ds⟩ w
def WL (ops : Array Oper) (Q : Exit → Act → World → Prop) (l : List Oper) (r : Env) (ds : List Dfr) (m : Mem) (H : SHeap) : Prop :=
 ∀ tmps w, r.ok n tmps → Sat w0 m H w → wpListIn (FW ro) 0 P ops Q l ⟨tmps, marks ds⟩ w
def WQ (Q : Exit → Act → World → Prop) (e : Exit) (r : Env) (ds : List Dfr) (m : Mem) (H : SHeap) : Prop :=
 ∀ tmps w, r.ok n tmps → Sat w0 m H w → Q e ⟨tmps, marks ds⟩ w
def Does (f : FuncId) (args : Array Value) (w0 : World) (m : Mem) (H : SHeap) (Post : Value → Mem → SHeap → Prop) : Prop :=
 ∀ w, Sat w0 m H w → CallsIn (FW none) 0 P f args w fun e w' => ∃ v m' H', e = .returned v ∧ Post v m' H' ∧ Sat w0 m' H' w'
end
section
variable {P : Program} {ro : Option Nat} {n : Nat} {w0 : World} {Q : Exit → Act → World → Prop} {r : Env} {ds : List Dfr} {m : Mem} {H : SHeap}
theorem WC.seq {x y : Code} (h : WC P ro n w0 x (Exit.then (fun a w => y.wpIn (FW ro) 0 P Q a w) Q) r ds m H) : WC P ro n w0 (.seq x y) Q r ds m H :=
 fun tmps w ho hs => wpIn_seq (h tmps w ho hs)
theorem WC.block {id : Nat} {c : Code} (h : WC P ro n w0 c (Exit.inBlock id Q) r ds m H) : WC P ro n w0 (.block id c) Q r ds m H :=
 fun tmps w ho hs => wpIn_block (h tmps w ho hs)
theorem WC.ret (h : WQ n w0 Q .ret r ds m H) : WC P ro n w0 .ret Q r ds m H := fun tmps w ho hs => wpIn_ret (h tmps w ho hs)
theorem WC.skip (h : WQ n w0 Q .normal r ds m H) : WC P ro n w0 .skip Q r ds m H := fun tmps w ho hs => wpIn_skip (h tmps w ho hs)
theorem WC.exit {id : Nat} (h : WQ n w0 Q (.exit id) r ds m H) : WC P ro n w0 (.exit id) Q r ds m H := fun tmps w ho hs => wpIn_exit (h tmps w ho hs)
theorem WC.cond_t {c : Operand} {x y : Code} (hc : r.ev c = some (.bool true)) (h : WC P ro n w0 x Q r ds m H) : WC P ro n w0 (.cond c x y) Q r ds m H :=
 fun tmps w ho hs => wpIn_cond_true (ho.ev hc _) (h tmps w ho hs)
theorem WC.cond_f {c : Operand} {x y : Code} (hc : r.ev c = some (.bool false)) (h : WC P ro n w0 y Q r ds m H) : WC P ro n w0 (.cond c x y) Q r ds m H :=
 fun tmps w ho hs => wpIn_cond_false (ho.ev hc _) (h tmps w ho hs)
theorem WC.cond {c : Operand} {x y : Code} {b : Bool} (hc : r.ev c = some (.bool b)) (ht : b = true → WC P ro n w0 x Q r ds m H) (hf : b = false → WC P ro n w0 y Q r ds m H) :
  WC P ro n w0 (.cond c x y) Q r ds m H :=
 fun tmps w ho hs => wpIn_cond_split (ho.ev hc _) (fun e => ht e tmps w ho hs) (fun e => hf e tmps w ho hs)
theorem WC.region {id : Nat} {l : List Oper} (h : WL P ro n w0 l.toArray Q l r ds m H) : WC P ro n w0 (.region id l.toArray false) Q r ds m H :=
 fun tmps w ho hs => wpIn_region_lit (h tmps w ho hs)
theorem WC.weak {c : Code} {r' : Env} {H' : SHeap} (hr : Env.Sub r' r) (hh : ∀ w, Sat w0 m H w → Sat w0 m H' w) (h : WC P ro n w0 c Q r' ds m H') : WC P ro n w0 c Q r ds m H :=
 fun tmps w ho hs => h tmps w (hr.ok ho) (hh w hs)
theorem WL.weak {ops : Array Oper} {l : List Oper} {r' : Env} {H' : SHeap} (hr : Env.Sub r' r) (hh : ∀ w, Sat w0 m H w → Sat w0 m H' w) (h : WL P ro n w0 ops Q l r' ds m H') : WL P ro n w0 ops Q l r ds m H :=
 fun tmps w ho hs => h tmps w (hr.ok ho) (hh w hs)
theorem WC.of_post {c : Code} {Q' : Exit → Act → World → Prop} (h : WC P ro n w0 c Q r ds m H) (hq : ∀ e a w, Q e a w → Q' e a w) : WC P ro n w0 c Q' r ds m H :=
 fun tmps w ho hs => wpIn_mono (h tmps w ho hs) hq
theorem WL.nil {ops : Array Oper} (h : WQ n w0 Q .normal r ds m H) : WL P ro n w0 ops Q [] r ds m H := fun tmps w ho hs => h tmps w ho hs
theorem WQ.norm {y : Code} (h : WC P ro n w0 y Q r ds m H) : WQ n w0 (Exit.then (fun a w => y.wpIn (FW ro) 0 P Q a w) Q) .normal r ds m H := h
theorem WQ.thenRet {K : Act → World → Prop} (h : WQ n w0 Q .ret r ds m H) : WQ n w0 (Exit.then K Q) .ret r ds m H := h
theorem WQ.thenExit {K : Act → World → Prop} {id : Nat} (h : WQ n w0 Q (.exit id) r ds m H) : WQ n w0 (Exit.then K Q) (.exit id) r ds m H := h
theorem WQ.blockNorm {id : Nat} (h : WQ n w0 Q .normal r ds m H) : WQ n w0 (Exit.inBlock id Q) .normal r ds m H := h
theorem WQ.blockRet {id : Nat} (h : WQ n w0 Q .ret r ds m H) : WQ n w0 (Exit.inBlock id Q) .ret r ds m H := h
theorem WQ.blockSame {id : Nat} (h : WQ n w0 Q .normal r ds m H) : WQ n w0 (Exit.inBlock id Q) (.exit id) r ds m H := by
 intro tmps w ho hs
 simp only [Exit.inBlock, if_true]
 exact h tmps w ho hs
theorem WQ.blockOther {id id' : Nat} (hne : Nat.beq id' id = false) (h : WQ n w0 Q (.exit id') r ds m H) : WQ n w0 (Exit.inBlock id Q) (.exit id') r ds m H := by
 intro tmps w ho hs
 simp only [Exit.inBlock, if_neg (Nat.ne_of_beq_eq_false hne)]
 exact h tmps w ho hs
theorem WQ.weak {e : Exit} {r' : Env} {H' : SHeap} (hr : Env.Sub r' r) (hh : ∀ w, Sat w0 m H w → Sat w0 m H' w) (h : WQ n w0 Q e r' ds m H') : WQ n w0 Q e r ds m H :=
 fun tmps w ho hs => h tmps w (hr.ok ho) (hh w hs)
theorem Env.ok.setb {n : Nat} {r : Env} {tmps : Array Value} (h : r.ok n tmps) {d : Nat} {b c : Bool} (hd : r.get d = some (.bool b)) (hb : b = c) : Env.ok n ((d, .bool c) :: r) tmps := by
 refine ⟨h.size, fun t v ht => ?_⟩
 simp only [Env.get] at ht
 cases hq : Nat.beq d t with
 | true =>
  have e := Nat.eq_of_beq_eq_true hq
  subst e; subst hb
  simp at ht
  subst ht
  exact h.at_ _ _ hd
 | false =>
  simp [hq] at ht
  exact h.at_ t v ht
theorem WC.known {c : Code} (d : Nat) {b : Bool} (k : Bool) (hd : r.get d = some (.bool b)) (hb : b = k) (h : WC P ro n w0 c Q ((d, .bool k) :: r) ds m H) : WC P ro n w0 c Q r ds m H :=
 fun tmps w ho hs => h tmps w (ho.setb hd hb) hs
theorem WL.known {ops : Array Oper} {l : List Oper} (d : Nat) {b : Bool} (k : Bool) (hd : r.get d = some (.bool b)) (hb : b = k) (h : WL P ro n w0 ops Q l ((d, .bool k) :: r) ds m H) : WL P ro n w0 ops Q l r ds m H :=
 fun tmps w ho hs => h tmps w (ho.setb hd hb) hs
theorem WL.split {ops : Array Oper} {l : List Oper} (d : Nat) {b : Bool} (hd : r.get d = some (.bool b)) (ht : b = true → WL P ro n w0 ops Q l ((d, .bool true) :: r) ds m H)
  (hf : b = false → WL P ro n w0 ops Q l ((d, .bool false) :: r) ds m H) : WL P ro n w0 ops Q l r ds m H := by
 cases hb : b with
 | true => exact .known d true hd hb (ht hb)
 | false => exact .known d false hd hb (hf hb)
theorem WL.rename {ops : Array Oper} {l : List Oper} (d : Nat) {v u : Value} (hd : r.get d = some v) (hv : v = u) (h : WL P ro n w0 ops Q l ((d, u) :: r) ds m H) : WL P ro n w0 ops Q l r ds m H := by
 intro tmps w ho hs
 refine h tmps w ⟨ho.size, fun t x ht => ?_⟩ hs
 simp only [Env.get] at ht
 cases hq : Nat.beq d t with
 | true =>
  have e := Nat.eq_of_beq_eq_true hq
  subst e; subst hv
  simp at ht
  subst ht
  exact ho.at_ _ _ hd
 | false =>
  simp [hq] at ht
  exact ho.at_ t x ht
theorem WC.rename {c : Code} (d : Nat) {v u : Value} (hd : r.get d = some v) (hv : v = u) (h : WC P ro n w0 c Q ((d, u) :: r) ds m H) : WC P ro n w0 c Q r ds m H := by
 subst hv
 intro tmps w ho hs
 refine h tmps w ⟨ho.size, fun t x ht => ?_⟩ hs
 simp only [Env.get] at ht
 cases hq : Nat.beq d t with
 | true =>
  have e := Nat.eq_of_beq_eq_true hq
  subst e
  simp at ht
  subst ht
  exact ho.at_ _ _ hd
 | false =>
  simp [hq] at ht
  exact ho.at_ t x ht
theorem zAE {ops : Array Oper} {j dj : Nat} {tmps : Array Value} (hj : (ops[j]?).bind (·.dst) = some dj) {b : Bool} (hv : tmps[dj]? = some (.bool b)) : yielded ops tmps j = some b := by
 simp [yielded, hj, hv]
theorem WL.on {ops : Array Oper} {l : List Oper} {dst : Option Tmp} {op : Op} {ty : TypeId} {pos : String} {after : Array Edge} {j dj : Nat} {want : Bool}
  (hj : (ops[j]?).bind (·.dst) = some dj) (hv : r.get dj = some (.bool want)) (h : WL P ro n w0 ops Q (⟨dst, op, ty, pos, after, none⟩ :: l) r ds m H) :
  WL P ro n w0 ops Q (⟨dst, op, ty, pos, after, some (j, want)⟩ :: l) r ds m H := by
 intro tmps w ho hs
 have hk := h tmps w ho hs
 unfold wpListIn at hk ⊢
 simp only [Region.wanted, if_true] at hk
 simp only [Region.wanted, zAE hj (ho.at_ _ _ hv), BEq.rfl, if_true]
 exact hk
theorem WL.off {ops : Array Oper} {l : List Oper} {dst : Nat} {op : Op} {ty : TypeId} {pos : String} {after : Array Edge} {j dj : Nat} {want b : Bool}
  (hj : (ops[j]?).bind (·.dst) = some dj) (hv : r.get dj = some (.bool b)) (hb : b = !want) (hd : Nat.blt dst n = true) (h : WL P ro n w0 ops Q l ((dst, undef) :: r) ds m H) :
  WL P ro n w0 ops Q (⟨some dst, op, ty, pos, after, some (j, want)⟩ :: l) r ds m H := by
 subst hb
 intro tmps w ho hs
 unfold wpListIn
 have hw : (some (!want) == some want) = false := by cases want <;> rfl
 simp only [Region.wanted, zAE hj (ho.at_ _ _ hv), hw]
 exact ⟨fun f _ => jA ro f, h _ w (ho.put (by simpa [Nat.blt_eq] using hd) undef) hs⟩
theorem WL.off' {ops : Array Oper} {l : List Oper} {op : Op} {ty : TypeId} {pos : String} {after : Array Edge} {j dj : Nat} {want b : Bool}
  (hj : (ops[j]?).bind (·.dst) = some dj) (hv : r.get dj = some (.bool b)) (hb : b = !want) (h : WL P ro n w0 ops Q l r ds m H) :
  WL P ro n w0 ops Q (⟨none, op, ty, pos, after, some (j, want)⟩ :: l) r ds m H := by
 subst hb
 intro tmps w ho hs
 unfold wpListIn
 have hw : (some (!want) == some want) = false := by cases want <;> rfl
 simp only [Region.wanted, zAE hj (ho.at_ _ _ hv), hw]
 exact ⟨fun f _ => jA ro f, h _ w ho hs⟩
theorem WL.offU {ops : Array Oper} {l : List Oper} {dst : Nat} {op : Op} {ty : TypeId} {pos : String} {after : Array Edge} {j dj : Nat} {want : Bool}
  (hj : (ops[j]?).bind (·.dst) = some dj) (hv : r.get dj = some undef) (hd : Nat.blt dst n = true) (h : WL P ro n w0 ops Q l ((dst, undef) :: r) ds m H) :
  WL P ro n w0 ops Q (⟨some dst, op, ty, pos, after, some (j, want)⟩ :: l) r ds m H := by
 intro tmps w ho hs
 unfold wpListIn
 have hy : yielded ops tmps j = none := by simp [yielded, hj, ho.at_ _ _ hv, undef]
 have hw : ((none : Option Bool) == some want) = false := rfl
 simp only [Region.wanted, hy, hw]
 exact ⟨fun f _ => jA ro f, h _ w (ho.put (by simpa [Nat.blt_eq] using hd) undef) hs⟩
theorem w6 (ro : Option Nat) (ρ : Operand → Value) (o : Oper) (h : ∀ c, o.op ≠ .defer c) : Oper.semAt ro ρ o = execOp ρ o := by
 cases ro with
 | none => exact Oper.semAt_none ρ o
 | some l => exact Oper.semAt_some l ρ o h
theorem WL.gen {ops : Array Oper} {l : List Oper} {d : Nat} {op : Op} {ty : TypeId} {pos : String} {after : Array Edge} (K : Value → Mem → SHeap → Prop)
  (hd : Nat.blt d n = true) (hnd : ∀ c, op ≠ .defer c)
  (hrun : ∀ tmps w, r.ok n tmps → Sat w0 m H w → ∃ v m' H' w', (execOp (Act.mk tmps (marks ds)).eval ⟨some d, op, ty, pos, after, none⟩).run P w = .ok (.value v) w' ∧ Sat w0 m' H' w' ∧ K v m' H')
  (h : ∀ v m' H', K v m' H' → WL P ro n w0 ops Q l ((d, v) :: r) ds m' H') : WL P ro n w0 ops Q (⟨some d, op, ty, pos, after, none⟩ :: l) r ds m H := by
 intro tmps w ho hs
 obtain ⟨v, m', H', w', hr, hs', hK⟩ := hrun tmps w ho hs
 unfold wpListIn
 simp only [Region.wanted, if_true]
 refine ⟨fun f _ => jA ro f, ?_⟩
 rw [w6 (FW ro).round _ _ hnd, hr]
 exact h v m' H' hK _ w' (ho.put (by simpa [Nat.blt_eq] using hd) v) hs'
theorem WL.val {ops : Array Oper} {l : List Oper} {d : Nat} {op : Op} {ty : TypeId} {pos : String} {after : Array Edge} {v : Value}
  (hd : Nat.blt d n = true) (hnd : ∀ c, op ≠ .defer c)
  (hrun : ∀ tmps w, r.ok n tmps → Sat w0 m H w → (execOp (Act.mk tmps (marks ds)).eval ⟨some d, op, ty, pos, after, none⟩).run P w = .ok (.value v) w)
  (h : WL P ro n w0 ops Q l ((d, v) :: r) ds m H) : WL P ro n w0 ops Q (⟨some d, op, ty, pos, after, none⟩ :: l) r ds m H :=
 .gen (fun v' m' H' => v' = v ∧ m' = m ∧ H' = H) hd hnd (fun tmps w ho hs => ⟨v, m, H, w, hrun tmps w ho hs, hs, rfl, rfl, rfl⟩) (by rintro _ _ _ ⟨rfl, rfl, rfl⟩; exact h)
theorem WL.act {ops : Array Oper} {l : List Oper} {dst : Option Nat} {op : Op} {ty : TypeId} {pos : String} {after : Array Edge} (K : Mem → SHeap → Prop)
  (hdst : dst = none) (hnd : ∀ c, op ≠ .defer c)
  (hrun : ∀ tmps w, r.ok n tmps → Sat w0 m H w → ∃ m' H' w', (execOp (Act.mk tmps (marks ds)).eval ⟨dst, op, ty, pos, after, none⟩).run P w = .ok .skip w' ∧ Sat w0 m' H' w' ∧ K m' H')
  (h : ∀ m' H', K m' H' → WL P ro n w0 ops Q l r ds m' H') : WL P ro n w0 ops Q (⟨dst, op, ty, pos, after, none⟩ :: l) r ds m H := by
 subst hdst
 intro tmps w ho hs
 obtain ⟨m', H', w', hr, hs', hK⟩ := hrun tmps w ho hs
 unfold wpListIn
 simp only [Region.wanted, if_true]
 refine ⟨fun f _ => jA ro f, ?_⟩
 rw [w6 (FW ro).round _ _ hnd, hr]
 exact h m' H' hK _ w' ho hs'
theorem WL.enter {ops : Array Oper} {l : List Oper} {dst : Option Nat} {op : Op} {ty : TypeId} {pos : String} {after : Array Edge} {f : FuncId} {args : Array Value} {Post : Value → Mem → SHeap → Prop}
  (hd : ∀ d, dst = some d → d < n) (hnd : ∀ c, op ≠ .defer c)
  (hrun : ∀ tmps w, r.ok n tmps → Sat w0 m H w → (execOp (Act.mk tmps (marks ds)).eval ⟨dst, op, ty, pos, after, none⟩).run P w = .ok (.enter f args) w)
  (hs : Does P f args w0 m H Post)
  (h : ∀ v m' H', Post v m' H' → WL P ro n w0 ops Q l ((dst.map fun d => (d, v)).toList ++ r) ds m' H') : WL P ro n w0 ops Q (⟨dst, op, ty, pos, after, none⟩ :: l) r ds m H := by
 intro tmps w ho hsat
 unfold wpListIn
 simp only [Region.wanted, if_true]
 refine ⟨fun f _ => jA ro f, ?_⟩
 rw [w6 (FW ro).round _ _ hnd, hrun tmps w ho hsat]
 refine ⟨jV ro, ?_⟩
 have hc : CallsIn (FW ro) (0 - 1) P f args w _ := hs w hsat
 refine hc.mono ?_
 rintro e w' ⟨v, m', H', rfl, hP, hs'⟩
 cases dst with
 | none => exact h v m' H' hP tmps w' ho hs'
 | some d => exact h v m' H' hP _ w' (ho.put (hd d rfl) v) hs'
theorem zAP (p : Nat → Prop) (h : ∃ k, p k) : ∃ k, p k ∧ ∀ j, p j → k ≤ j := by
 obtain ⟨k, hk⟩ := h
 induction k using Nat.strongRecOn with
 | _ k ih =>
  by_cases hx : ∃ j, j < k ∧ p j
  ·obtain ⟨j, hj, hp⟩ := hx
   exact ih j hj hp
  ·refine ⟨k, hk, fun j hj => ?_⟩
   rcases Nat.lt_or_ge j k with hlt | hge
   ·exact absurd ⟨j, hlt, hj⟩ hx
   ·exact hge
open Classical in
noncomputable def least (p : Nat → Prop) : Nat := if h : ∃ k, p k then Classical.choose (zAP p h) else 0
theorem zFq {p : Nat → Prop} {k : Nat} (h : p k) : p (least p) ∧ least p ≤ k := by
 have hx : ∃ k, p k := ⟨k, h⟩
 simp only [least, dif_pos hx]
 have := Classical.choose_spec (zAP p hx)
 exact ⟨this.1, this.2 k h⟩
def zJ (n : Nat) (w0 : World) (I : Nat → Env → List Dfr → Mem → SHeap → Prop) (j : Nat) (Q : Exit → Act → World → Prop) : Exit → Act → World → Prop :=
 Exit.then (fun a w => ∃ j', j' < j ∧ ∃ r ds m H, I j' r ds m H ∧ r.ok n a.tmps ∧ a.defers = marks ds ∧ Sat w0 m H w) Q
theorem WC.loop {c : Code} (I : Nat → Env → List Dfr → Mem → SHeap → Prop) (j : Nat) (h0 : I j r ds m H)
  (round : ∀ j r ds m H, I j r ds m H → WC P ro n w0 c (zJ n w0 I j Q) r ds m H) : WC P ro n w0 (.loop c) Q r ds m H := by
 intro tmps w ho hs
 let J : Nat → Act → World → Prop := fun j a w => ∃ r ds m H, I j r ds m H ∧ r.ok n a.tmps ∧ a.defers = marks ds ∧ Sat w0 m H w
 refine wpIn_loop (fun a w => ∃ j, J j a w) (fun a w => least fun j => J j a w) ⟨j, r, ds, m, H, h0, ho, rfl, hs⟩ ?_
 rintro a w ⟨j1, hj1⟩
 obtain ⟨hl, _⟩ := zFq (p := fun j => J j a w) hj1
 obtain ⟨r', ds', m', H', hI, hok, hd, hsat⟩ := hl
 have := round _ r' ds' m' H' hI a.tmps w hok hsat
 obtain ⟨tm, df⟩ := a
 simp only at hd
 subst hd
 refine wpIn_mono this ?_
 intro e a2 w2 hq
 cases e with
 | normal =>
  obtain ⟨j2, hlt, hJ⟩ := hq
  exact ⟨⟨j2, hJ⟩, Nat.lt_of_le_of_lt (zFq (p := fun j => J j a2 w2) hJ).2 hlt⟩
 | _ => exact hq
theorem WQ.next {I : Nat → Env → List Dfr → Mem → SHeap → Prop} {j : Nat} {r' : Env} {H' : SHeap} (j' : Nat) (hI : I j' r' ds m H') (hlt : j' < j) (hr : Env.Sub r' r) (hh : ∀ w, Sat w0 m H w → Sat w0 m H' w) :
  WQ n w0 (zJ n w0 I j Q) .normal r ds m H :=
 fun _ w ho hs => ⟨j', hlt, r', ds, m, H', hI, hr.ok ho, rfl, hh w hs⟩
theorem WQ.loopExit {I : Nat → Env → List Dfr → Mem → SHeap → Prop} {j id : Nat} (h : WQ n w0 Q (.exit id) r ds m H) : WQ n w0 (zJ n w0 I j Q) (.exit id) r ds m H := h
theorem WQ.loopRet {I : Nat → Env → List Dfr → Mem → SHeap → Prop} {j : Nat} (h : WQ n w0 Q .ret r ds m H) : WQ n w0 (zJ n w0 I j Q) .ret r ds m H := h
def QFun (P : Program) (fn : Func) (w0 : World) (Post : Value → Mem → SHeap → Prop) : Exit → Act → World → Prop :=
 bodyPostM (FW none) 0 P fn fun e w' => ∃ v m' H', e = .returned v ∧ Post v m' H' ∧ Sat w0 m' H' w'
def Env.args : Nat → List Value → Env
 | _, [] => []
 | k, v :: l => (k, v) :: Env.args (k + 1) l
theorem Env.args_get : ∀ (l : List Value) (k t : Nat) (v : Value), (Env.args k l).get t = some v → k ≤ t ∧ l[t - k]? = some v
 | [], k, t, v, h => by simp [Env.args, Env.get] at h
 | u :: l, k, t, v, h => by
  simp only [Env.args, Env.get] at h
  cases hb : Nat.beq k t with
  | true =>
   have e := Nat.eq_of_beq_eq_true hb
   subst e
   simp at h
   simp [h]
  | false =>
   have e := Nat.ne_of_beq_eq_false hb
   simp [hb] at h
   obtain ⟨h1, h2⟩ := Env.args_get l (k + 1) t v h
   refine ⟨by omega, ?_⟩
   rw [show t - k = (t - (k + 1)) + 1 by omega]
   simpa using h2
theorem Does.of_body {f : FuncId} {fn : Func} {c : Code} {args : List Value} {Post : Value → Mem → SHeap → Prop} (hf : P.funcs[f]? = some fn) (hb : fn.body = some c)
  (hn : fn.ntmps = n) (ha : Nat.ble args.length n = true) (h : WC P none n w0 c (QFun P fn w0 Post) (Env.args 0 args) [] m H) : Does P f args.toArray w0 m H Post := by
 intro w hs
 refine callsIn_of_wp_marks hf hb (jA none f) ?_
 refine h _ w ⟨?_, ?_⟩ hs
 ·have : args.length ≤ n := by simpa using ha
  simp [hn]; omega
 ·intro t v ht
  obtain ⟨_, h2⟩ := Env.args_get args 0 t v ht
  simp only [Nat.sub_zero] at h2
  rw [Array.getElem?_append_left (by simpa using (List.getElem?_eq_some_iff.1 h2).1)]
  simpa using h2
theorem Does.mono {f : FuncId} {args : Array Value} {Post Post' : Value → Mem → SHeap → Prop} (h : Does P f args w0 m H Post) (hp : ∀ v m' H', Post v m' H' → Post' v m' H') : Does P f args w0 m H Post' :=
 fun w hs => (h w hs).mono fun _ _ ⟨v, m', H', he, hP, hs'⟩ => ⟨v, m', H', he, hp _ _ _ hP, hs'⟩
theorem WQ.fin {fn : Func} {Post : Value → Mem → SHeap → Prop} (v : Value) (hres : ∀ tmps w, r.ok n tmps → Sat w0 m H w → (results fn tmps).run P w = .ok v w) (hp : Post v m H) :
  WQ n w0 (QFun P fn w0 Post) .ret r [] m H :=
 fun tmps w ho hs => ⟨v, hres tmps w ho hs, v, m, H, rfl, hp, hs⟩
theorem WQ.finNorm {fn : Func} {Post : Value → Mem → SHeap → Prop} (v : Value) (hres : ∀ tmps w, r.ok n tmps → Sat w0 m H w → (results fn tmps).run P w = .ok v w) (hp : Post v m H) :
  WQ n w0 (QFun P fn w0 Post) .normal r [] m H :=
 fun tmps w ho hs => ⟨v, hres tmps w ho hs, v, m, H, rfl, hp, hs⟩
theorem Sat.putObj {b : Nat} {o o' : Obj} {w : World} (h : Sat w0 m (.blk b o :: H) w) : Sat w0 m (.blk b o' :: H) (w.putObj b o') := by
 have hb : w.heap[b]? = some o := h.own _ List.mem_cons_self
 refine h.turn (j := .blk b o') rfl rfl rfl (by simp) (fun k _ hk => World.putObj_heap_other (by simpa [Item.foot] using hk)) (World.putObj_heap_same (Array.getElem?_eq_some_iff.1 hb).1) (fun x hx => .inl hx) (by simp [Item.foot])
theorem WQ.mark {fn : Func} {Post : Value → Mem → SHeap → Prop} {D : Nat} {H1 : SHeap} (hp : List.Perm H (.blk D (.deferred (some [])) :: H1)) (h : WQ n w0 (QFun P fn w0 Post) .ret r ds m H1) :
  WQ n w0 (QFun P fn w0 Post) .ret r (D :: ds) m H := by
 intro tmps w ho hs
 have hs1 := hs.perm hp
 have hD : w.heap[D]? = some (.deferred (some [])) := hs1.own _ List.mem_cons_self
 refine ⟨by simp, .inl ⟨D, w.putObj D (.deferred none), rfl, run_takeDeferred hD, ?_⟩⟩
 exact h tmps _ ho hs1.putObj.drop
theorem WQ.markNorm {fn : Func} {Post : Value → Mem → SHeap → Prop} {D : Nat} {H1 : SHeap} (hp : List.Perm H (.blk D (.deferred (some [])) :: H1)) (h : WQ n w0 (QFun P fn w0 Post) .normal r ds m H1) :
  WQ n w0 (QFun P fn w0 Post) .normal r (D :: ds) m H := by
 intro tmps w ho hs
 have hs1 := hs.perm hp
 have hD : w.heap[D]? = some (.deferred (some [])) := hs1.own _ List.mem_cons_self
 refine ⟨by simp, .inl ⟨D, w.putObj D (.deferred none), rfl, run_takeDeferred hD, ?_⟩⟩
 exact h tmps _ ho hs1.putObj.drop
end
end Go.Eng
namespace Go.Eng
open Go Go.RowKit
@[reducible] def str (l : List UInt8) : Value := .string ⟨l.toArray⟩
@[reducible] def i64 (x : Int) : Value := .int .i64 x
def gb (l : List UInt8) (k : Nat) : Nat := (l.getD k 0).toNat
theorem zIz (l : List UInt8) (k : Nat) : gb l k < 256 := (l.getD k 0).toNat_lt
theorem yJ (l : List UInt8) : (⟨l.toArray⟩ : ByteArray).size = l.length := by simp [ByteArray.size]
theorem jD (l : List UInt8) : (⟨l.toArray⟩ : ByteArray).toList = l := by
 simp [ByteArray.toList_eq]
def aggB (P : Program) (t : TypeId) : Option Bool := (P.underlying t).map fun d => match d with | .struct _ | .array _ _ => true | _ => false
def lit : Nat → Option Nat
 | 0 => some 0
 | 1 => some 1
 | 2 => some 2
 | 3 => some 3
 | 4 => some 4
 | 5 => some 5
 | 6 => some 6
 | 7 => some 7
 | 8 => some 8
 | 9 => some 9
 | 10 => some 10
 | 11 => some 11
 | 12 => some 12
 | 13 => some 13
 | 14 => some 14
 | 15 => some 15
 | 16 => some 16
 | 17 => some 17
 | 18 => some 18
 | 19 => some 19
 | 20 => some 20
 | 21 => some 21
 | 22 => some 22
 | 23 => some 23
 | 24 => some 24
 | 25 => some 25
 | 26 => some 26
 | 27 => some 27
 | 28 => some 28
 | 29 => some 29
 | 30 => some 30
 | 31 => some 31
 | 32 => some 32
 | 33 => some 33
 | 34 => some 34
 | 35 => some 35
 | 36 => some 36
 | 37 => some 37
 | 38 => some 38
 | 39 => some 39
 | 40 => some 40
 | n => some n
theorem kF (n : Nat) : lit n = some n := by unfold lit; split <;> rfl
def xI (P : Program) (t : TypeId) : Option Nat := (P.info? t).bind fun d => lit d.size
def bytesB (P : Program) (t : TypeId) : Option Nat := (P.info? t).bind fun d => lit d.bytes
def zeroB (P : Program) (t : TypeId) : Option Value := (P.info? t).bind (·.zero)
section
variable {P : Program} {t : TypeId}
theorem zBs {b : Bool} (h : aggB P t = some b) (w : World) : (isAgg t).run P w = .ok b w := by
 unfold aggB at h
 cases hu : P.underlying t with
 | none => simp [hu] at h
 | some d =>
  simp [hu] at h
  subst h
  simp only [isAgg, Sem.run_bind, run_underlying hu, Result.andThen_ok]
  cases d <;> rfl
theorem y8 {s : Nat} (h : xI P t = some s) (w : World) : (sizeOf t).run P w = .ok s w := by
 unfold xI at h
 cases hu : P.info? t with
 | none => simp [hu] at h
 | some d =>
  simp [hu, kF] at h
  subst h
  simp [sizeOf, typeInfo, Sem.run_bind, hu, Result.andThen, pure]
theorem zAU {s : Nat} (h : bytesB P t = some s) (w : World) : ∃ i, P.info? t = some i ∧ i.bytes = s ∧ (typeInfo t).run P w = .ok i w := by
 unfold bytesB at h
 cases hu : P.info? t with
 | none => simp [hu] at h
 | some d =>
  simp [hu, kF] at h
  exact ⟨d, rfl, h, by simp [typeInfo, Sem.run_bind, hu, Result.andThen, pure]⟩
theorem xG {z : Value} (h : zeroB P t = some z) (w : World) : (zeroValue t).run P w = .ok z w := by
 unfold zeroB at h
 cases hu : P.info? t with
 | none => simp [hu] at h
 | some d =>
  simp [hu] at h
  simp [zeroValue, typeInfo, Sem.run_bind, hu, Result.andThen, pure, h]
end
section
variable {P : Program} {ro : Option Nat} {n : Nat} {w0 : World} {Q : Exit → Act → World → Prop} {r : Env} {ds : List Dfr} {m : Mem} {H : SHeap}
 {ops : Array Oper} {l : List Oper} {d : Nat} {ty : TypeId} {pos : String} {after : Array Edge}
theorem WL.move {x : Operand} {v : Value} (hx : r.ev x = some v) (hd : Nat.blt d n = true) (h : WL P ro n w0 ops Q l ((d, v) :: r) ds m H) :
  WL P ro n w0 ops Q (⟨some d, .move x, ty, pos, after, none⟩ :: l) r ds m H :=
 .val hd (fun _ h => by cases h) (fun tmps w ho _ => by simp [execOp, ho.ev hx]) h
theorem WL.assign {x : Operand} {v : Value} (hx : r.ev x = some v) (hd : Nat.blt d n = true) (h : WL P ro n w0 ops Q l ((d, v) :: r) ds m H) :
  WL P ro n w0 ops Q (⟨some d, .assign x, ty, pos, after, none⟩ :: l) r ds m H :=
 .val hd (fun _ h => by cases h) (fun tmps w ho _ => by simp [execOp, ho.ev hx]) h
theorem WL.pick_t {c x y : Operand} {v : Value} (hc : r.ev c = some (.bool true)) (hx : r.ev x = some v) (hd : Nat.blt d n = true) (h : WL P ro n w0 ops Q l ((d, v) :: r) ds m H) :
  WL P ro n w0 ops Q (⟨some d, .pick c x y, ty, pos, after, none⟩ :: l) r ds m H :=
 .val hd (fun _ h => by cases h) (fun tmps w ho _ => by simp [execOp, ho.ev hx, ho.ev hc, asBool]) h
theorem WL.pick_f {c x y : Operand} {v : Value} (hc : r.ev c = some (.bool false)) (hx : r.ev y = some v) (hd : Nat.blt d n = true) (h : WL P ro n w0 ops Q l ((d, v) :: r) ds m H) :
  WL P ro n w0 ops Q (⟨some d, .pick c x y, ty, pos, after, none⟩ :: l) r ds m H :=
 .val hd (fun _ h => by cases h) (fun tmps w ho _ => by simp [execOp, ho.ev hx, ho.ev hc, asBool]) h
theorem WL.makeFunc {fn : Fn} {first captured : List Operand} {fv cv : List Value} (h1 : r.evs first = some fv) (h2 : r.evs captured = some cv) (hd : Nat.blt d n = true)
  (h : WL P ro n w0 ops Q l ((d, .func fn fv.toArray cv.toArray) :: r) ds m H) :
  WL P ro n w0 ops Q (⟨some d, .makeFunc fn first.toArray captured.toArray, ty, pos, after, none⟩ :: l) r ds m H :=
 .val hd (fun _ h => by cases h) (fun tmps w ho _ => by
  have e1 := ho.evs (marks ds) h1
  have e2 := ho.evs (marks ds) h2
  simp [execOp, Instr.makeFunc, e1, e2]) h
theorem WL.makeIface {t : TypeId} {x : Operand} {v : Value} (ht : (P.underlying t).any (fun d => match d with | .interface _ => false | _ => true) = true) (hx : r.ev x = some v) (hd : Nat.blt d n = true)
  (h : WL P ro n w0 ops Q l ((d, .iface t v) :: r) ds m H) : WL P ro n w0 ops Q (⟨some d, .makeInterface t x, ty, pos, after, none⟩ :: l) r ds m H :=
 .val hd (fun _ h => by cases h) (fun tmps w ho _ => by
  cases hu : P.underlying t with
  | none => simp [hu] at ht
  | some q =>
   simp only [execOp, Instr.makeInterface, Sem.run_bind, run_underlying hu, Result.andThen_ok, ho.ev hx]
   cases q <;> simp_all) h
theorem WL.nilCheck {x : Operand} {a : Addr} (hx : r.ev x = some (.pointer (some a))) (hd : Nat.blt d n = true)
  (h : WL P ro n w0 ops Q l ((d, .pointer (some a)) :: r) ds m H) : WL P ro n w0 ops Q (⟨some d, .nilCheck x, ty, pos, after, none⟩ :: l) r ds m H :=
 .val hd (fun _ h => by cases h) (fun tmps w ho _ => by simp [execOp, ho.ev hx]) h
theorem WL.nilCheckFunc {x : Operand} {f : FuncId} {a b : Array Value} (hx : r.ev x = some (.func (.func f) a b)) (hd : Nat.blt d n = true)
  (h : WL P ro n w0 ops Q l ((d, .func (.func f) a b) :: r) ds m H) : WL P ro n w0 ops Q (⟨some d, .nilCheck x, ty, pos, after, none⟩ :: l) r ds m H :=
 .val hd (fun _ h => by cases h) (fun tmps w ho _ => by simp [execOp, ho.ev hx]) h
theorem WL.extract {x : Operand} {vs : List Value} {i : Nat} {v : Value} (hx : r.ev x = some (.tuple vs.toArray)) (hv : vs[i]? = some v) (hd : Nat.blt d n = true)
  (h : WL P ro n w0 ops Q l ((d, v) :: r) ds m H) : WL P ro n w0 ops Q (⟨some d, .extract x i, ty, pos, after, none⟩ :: l) r ds m H :=
 .val hd (fun _ h => by cases h) (fun tmps w ho _ => by simp [execOp, Instr.extract, ho.ev hx, hv]) h
section
variable {k : IntKind} {x y : Operand} {a b : Int} {t t' : TypeId}
theorem WL.int2 {op : BinOp} {v : Value} (hop : ∀ tx vx vy, eqGuard op tx vx vy (.int k a) (.int k b) = pure ()) (hrun : ∀ w, (binOp op t (.int k a) (.int k b)).run P w = .ok v w)
  (hx : r.ev x = some (.int k a)) (hy : r.ev y = some (.int k b)) (hd : Nat.blt d n = true) (h : WL P ro n w0 ops Q l ((d, v) :: r) ds m H) :
  WL P ro n w0 ops Q (⟨some d, .binOp op t x y t', ty, pos, after, none⟩ :: l) r ds m H :=
 .val hd (fun _ h => by cases h) (fun tmps w ho _ => by
  simp only [execOp, ho.ev hx, ho.ev hy, hop, Sem.run_bind, Sem.run_pure, Result.andThen_ok, hrun]) h
theorem yH (op : BinOp) (tx : TypeId) (vx vy : Operand) (k k' : IntKind) (a b : Int) : eqGuard op tx vx vy (.int k a) (.int k' b) = pure () := by
 cases op <;> rfl
theorem WL.add (hx : r.ev x = some (.int k a)) (hy : r.ev y = some (.int k b)) (hd : Nat.blt d n = true) (h : WL P ro n w0 ops Q l ((d, .int k (k.wrap (a + b))) :: r) ds m H) :
  WL P ro n w0 ops Q (⟨some d, .binOp .add t x y t', ty, pos, after, none⟩ :: l) r ds m H :=
 .int2 (fun _ _ _ => yH _ _ _ _ _ _ _ _) (fun w => by simp [binOp, Op.intArith]) hx hy hd h
theorem WL.sub (hx : r.ev x = some (.int k a)) (hy : r.ev y = some (.int k b)) (hd : Nat.blt d n = true) (h : WL P ro n w0 ops Q l ((d, .int k (k.wrap (a - b))) :: r) ds m H) :
  WL P ro n w0 ops Q (⟨some d, .binOp .sub t x y t', ty, pos, after, none⟩ :: l) r ds m H :=
 .int2 (fun _ _ _ => yH _ _ _ _ _ _ _ _) (fun w => by simp [binOp, Op.intArith]) hx hy hd h
theorem WL.mul (hx : r.ev x = some (.int k a)) (hy : r.ev y = some (.int k b)) (hd : Nat.blt d n = true) (h : WL P ro n w0 ops Q l ((d, .int k (k.wrap (a * b))) :: r) ds m H) :
  WL P ro n w0 ops Q (⟨some d, .binOp .mul t x y t', ty, pos, after, none⟩ :: l) r ds m H :=
 .int2 (fun _ _ _ => yH _ _ _ _ _ _ _ _) (fun w => by simp [binOp, Op.intArith]) hx hy hd h
theorem uJ {e : Int} (h : -9223372036854775808 ≤ e ∧ e ≤ 9223372036854775807) : IntKind.i64.wrap e = e := by
 rw [IntKind.wrap_i64]; omega
theorem jN {e : Int} (h : -2147483648 ≤ e ∧ e ≤ 2147483647) : IntKind.i32.wrap e = e := by
 rw [IntKind.wrap_i32]; omega
theorem qH {e : Int} (h : 0 ≤ e ∧ e ≤ 255) : IntKind.u8.wrap e = e := by
 simp [IntKind.wrap, IntKind.signed, IntKind.bits]; omega
theorem zAw {e : Int} (h : 0 ≤ e ∧ e ≤ 18446744073709551615) : IntKind.u64.wrap e = e := by
 simp [IntKind.wrap, IntKind.signed, IntKind.bits]; omega
theorem zGc {e : Int} (h : 0 ≤ e ∧ e ≤ 4294967295) : IntKind.u32.wrap e = e := by
 simp [IntKind.wrap, IntKind.signed, IntKind.bits]; omega
theorem WL.add64 (hx : r.ev x = some (.int .i64 a)) (hy : r.ev y = some (.int .i64 b)) (hd : Nat.blt d n = true) (hb : -9223372036854775808 ≤ a + b ∧ a + b ≤ 9223372036854775807)
  (h : WL P ro n w0 ops Q l ((d, .int .i64 (a + b)) :: r) ds m H) : WL P ro n w0 ops Q (⟨some d, .binOp .add t x y t', ty, pos, after, none⟩ :: l) r ds m H :=
 .add hx hy hd (by rw [uJ hb]; exact h)
theorem WL.sub64 (hx : r.ev x = some (.int .i64 a)) (hy : r.ev y = some (.int .i64 b)) (hd : Nat.blt d n = true) (hb : -9223372036854775808 ≤ a - b ∧ a - b ≤ 9223372036854775807)
  (h : WL P ro n w0 ops Q l ((d, .int .i64 (a - b)) :: r) ds m H) : WL P ro n w0 ops Q (⟨some d, .binOp .sub t x y t', ty, pos, after, none⟩ :: l) r ds m H :=
 .sub hx hy hd (by rw [uJ hb]; exact h)
theorem WL.mul64 (hx : r.ev x = some (.int .i64 a)) (hy : r.ev y = some (.int .i64 b)) (hd : Nat.blt d n = true) (hb : -9223372036854775808 ≤ a * b ∧ a * b ≤ 9223372036854775807)
  (h : WL P ro n w0 ops Q l ((d, .int .i64 (a * b)) :: r) ds m H) : WL P ro n w0 ops Q (⟨some d, .binOp .mul t x y t', ty, pos, after, none⟩ :: l) r ds m H :=
 .mul hx hy hd (by rw [uJ hb]; exact h)
theorem WL.add32 (hx : r.ev x = some (.int .i32 a)) (hy : r.ev y = some (.int .i32 b)) (hd : Nat.blt d n = true) (hb : -2147483648 ≤ a + b ∧ a + b ≤ 2147483647)
  (h : WL P ro n w0 ops Q l ((d, .int .i32 (a + b)) :: r) ds m H) : WL P ro n w0 ops Q (⟨some d, .binOp .add t x y t', ty, pos, after, none⟩ :: l) r ds m H :=
 .add hx hy hd (by rw [jN hb]; exact h)
theorem WL.sub32 (hx : r.ev x = some (.int .i32 a)) (hy : r.ev y = some (.int .i32 b)) (hd : Nat.blt d n = true) (hb : -2147483648 ≤ a - b ∧ a - b ≤ 2147483647)
  (h : WL P ro n w0 ops Q l ((d, .int .i32 (a - b)) :: r) ds m H) : WL P ro n w0 ops Q (⟨some d, .binOp .sub t x y t', ty, pos, after, none⟩ :: l) r ds m H :=
 .sub hx hy hd (by rw [jN hb]; exact h)
theorem WL.mul32 (hx : r.ev x = some (.int .i32 a)) (hy : r.ev y = some (.int .i32 b)) (hd : Nat.blt d n = true) (hb : -2147483648 ≤ a * b ∧ a * b ≤ 2147483647)
  (h : WL P ro n w0 ops Q l ((d, .int .i32 (a * b)) :: r) ds m H) : WL P ro n w0 ops Q (⟨some d, .binOp .mul t x y t', ty, pos, after, none⟩ :: l) r ds m H :=
 .mul hx hy hd (by rw [jN hb]; exact h)
theorem WL.addu8 (hx : r.ev x = some (.int .u8 a)) (hy : r.ev y = some (.int .u8 b)) (hd : Nat.blt d n = true) (hb : 0 ≤ a + b ∧ a + b ≤ 255)
  (h : WL P ro n w0 ops Q l ((d, .int .u8 (a + b)) :: r) ds m H) : WL P ro n w0 ops Q (⟨some d, .binOp .add t x y t', ty, pos, after, none⟩ :: l) r ds m H :=
 .add hx hy hd (by rw [qH hb]; exact h)
theorem WL.subu8 (hx : r.ev x = some (.int .u8 a)) (hy : r.ev y = some (.int .u8 b)) (hd : Nat.blt d n = true) (hb : 0 ≤ a - b ∧ a - b ≤ 255)
  (h : WL P ro n w0 ops Q l ((d, .int .u8 (a - b)) :: r) ds m H) : WL P ro n w0 ops Q (⟨some d, .binOp .sub t x y t', ty, pos, after, none⟩ :: l) r ds m H :=
 .sub hx hy hd (by rw [qH hb]; exact h)
theorem WL.quo64 (hx : r.ev x = some (.int .i64 a)) (hy : r.ev y = some (.int .i64 b)) (hd : Nat.blt d n = true) (ha : 0 ≤ a ∧ a ≤ 9223372036854775807) (hb : 1 ≤ b)
  (h : WL P ro n w0 ops Q l ((d, .int .i64 (a / b)) :: r) ds m H) : WL P ro n w0 ops Q (⟨some d, .binOp .quo t x y t', ty, pos, after, none⟩ :: l) r ds m H := by
 refine .int2 (fun _ _ _ => yH _ _ _ _ _ _ _ _) (fun w => ?_) hx hy hd h
 have h0 : ¬ b = 0 := by omega
 have h1 : a.tdiv b = a / b := Int.tdiv_eq_ediv_of_nonneg ha.1
 have h2 : 0 ≤ a / b := Int.ediv_nonneg ha.1 (by omega)
 have h3 : a / b ≤ a := Int.ediv_le_self b ha.1
 simp [binOp, Op.intDiv, h0, h1, uJ (e := a / b) ⟨by omega, by omega⟩]
theorem WL.rem64 (hx : r.ev x = some (.int .i64 a)) (hy : r.ev y = some (.int .i64 b)) (hd : Nat.blt d n = true) (ha : 0 ≤ a) (hb : 1 ≤ b)
  (h : WL P ro n w0 ops Q l ((d, .int .i64 (a % b)) :: r) ds m H) : WL P ro n w0 ops Q (⟨some d, .binOp .rem t x y t', ty, pos, after, none⟩ :: l) r ds m H := by
 refine .int2 (fun _ _ _ => yH _ _ _ _ _ _ _ _) (fun w => ?_) hx hy hd h
 have h0 : ¬ b = 0 := by omega
 have h1 : a.tmod b = a % b := Int.tmod_eq_emod_of_nonneg ha
 simp [binOp, Op.intDiv, h0, h1]
theorem WL.quo (hx : r.ev x = some (.int k a)) (hy : r.ev y = some (.int k b)) (hd : Nat.blt d n = true) (hb : b ≠ 0)
  (h : WL P ro n w0 ops Q l ((d, .int k (k.wrap (a.tdiv b))) :: r) ds m H) : WL P ro n w0 ops Q (⟨some d, .binOp .quo t x y t', ty, pos, after, none⟩ :: l) r ds m H :=
 .int2 (fun _ _ _ => yH _ _ _ _ _ _ _ _) (fun w => by simp [binOp, Op.intDiv, hb]) hx hy hd h
theorem WL.rem (hx : r.ev x = some (.int k a)) (hy : r.ev y = some (.int k b)) (hd : Nat.blt d n = true) (hb : b ≠ 0)
  (h : WL P ro n w0 ops Q l ((d, .int k (a.tmod b)) :: r) ds m H) : WL P ro n w0 ops Q (⟨some d, .binOp .rem t x y t', ty, pos, after, none⟩ :: l) r ds m H :=
 .int2 (fun _ _ _ => yH _ _ _ _ _ _ _ _) (fun w => by simp [binOp, Op.intDiv, hb]) hx hy hd h
theorem WL.lss (hx : r.ev x = some (.int k a)) (hy : r.ev y = some (.int k b)) (hd : Nat.blt d n = true) (h : WL P ro n w0 ops Q l ((d, .bool (dcd (a < b))) :: r) ds m H) :
  WL P ro n w0 ops Q (⟨some d, .binOp .lss t x y t', ty, pos, after, none⟩ :: l) r ds m H :=
 .int2 (fun _ _ _ => yH _ _ _ _ _ _ _ _) (fun w => by simp [binOp, Op.intCmp, y6]) hx hy hd h
theorem WL.leq (hx : r.ev x = some (.int k a)) (hy : r.ev y = some (.int k b)) (hd : Nat.blt d n = true) (h : WL P ro n w0 ops Q l ((d, .bool (dcd (a ≤ b))) :: r) ds m H) :
  WL P ro n w0 ops Q (⟨some d, .binOp .leq t x y t', ty, pos, after, none⟩ :: l) r ds m H :=
 .int2 (fun _ _ _ => yH _ _ _ _ _ _ _ _) (fun w => by simp [binOp, Op.intCmp, y6]) hx hy hd h
theorem WL.gtr (hx : r.ev x = some (.int k a)) (hy : r.ev y = some (.int k b)) (hd : Nat.blt d n = true) (h : WL P ro n w0 ops Q l ((d, .bool (dcd (b < a))) :: r) ds m H) :
  WL P ro n w0 ops Q (⟨some d, .binOp .gtr t x y t', ty, pos, after, none⟩ :: l) r ds m H :=
 .int2 (fun _ _ _ => yH _ _ _ _ _ _ _ _) (fun w => by simp [binOp, Op.intCmp, y6]) hx hy hd h
theorem WL.geq (hx : r.ev x = some (.int k a)) (hy : r.ev y = some (.int k b)) (hd : Nat.blt d n = true) (h : WL P ro n w0 ops Q l ((d, .bool (dcd (b ≤ a))) :: r) ds m H) :
  WL P ro n w0 ops Q (⟨some d, .binOp .geq t x y t', ty, pos, after, none⟩ :: l) r ds m H :=
 .int2 (fun _ _ _ => yH _ _ _ _ _ _ _ _) (fun w => by simp [binOp, Op.intCmp, y6]) hx hy hd h
theorem WL.eqlI (hx : r.ev x = some (.int k a)) (hy : r.ev y = some (.int k b)) (hd : Nat.blt d n = true) (h : WL P ro n w0 ops Q l ((d, .bool (dcd (a = b))) :: r) ds m H) :
  WL P ro n w0 ops Q (⟨some d, .binOp .eql t x y t', ty, pos, after, none⟩ :: l) r ds m H :=
 .int2 (fun _ _ _ => yH _ _ _ _ _ _ _ _) (fun w => by simp [binOp, Op.intCmp, y6]; rfl) hx hy hd h
theorem WL.neqI (hx : r.ev x = some (.int k a)) (hy : r.ev y = some (.int k b)) (hd : Nat.blt d n = true) (h : WL P ro n w0 ops Q l ((d, .bool (!dcd (a = b))) :: r) ds m H) :
  WL P ro n w0 ops Q (⟨some d, .binOp .neq t x y t', ty, pos, after, none⟩ :: l) r ds m H :=
 .int2 (fun _ _ _ => yH _ _ _ _ _ _ _ _) (fun w => by simp [binOp, Op.intCmp, y6]; rfl) hx hy hd h
theorem WL.shr {e : Nat} {ye : Int} {ky : IntKind} (hx : r.ev x = some (.int k a)) (hy : r.ev y = some (.int ky ye)) (hye : ye = e) (h0 : Nat.ble e k.bits = true) (hd : Nat.blt d n = true)
  (h : WL P ro n w0 ops Q l ((d, .int k (a / 2 ^ e)) :: r) ds m H) : WL P ro n w0 ops Q (⟨some d, .binOp .shr t x y t', ty, pos, after, none⟩ :: l) r ds m H :=
 .val hd (fun _ h => by cases h) (fun tmps w ho _ => by
  subst hye
  have h1 : ¬ ((e : Int) < 0) := by omega
  have h2 : min e k.bits = e := Nat.min_eq_left (by simpa using h0)
  have h3 : a.fdiv (2 ^ e) = a / 2 ^ e := Int.fdiv_eq_ediv_of_nonneg _ (by exact_mod_cast Nat.zero_le _)
  simp [execOp, ho.ev hx, ho.ev hy, yH, binOp, Op.shift, h1, h2, h3]) h
theorem WL.shl {e : Nat} {ye : Int} {ky : IntKind} (hx : r.ev x = some (.int k a)) (hy : r.ev y = some (.int ky ye)) (hye : ye = e) (h0 : Nat.ble e k.bits = true) (hd : Nat.blt d n = true)
  (h : WL P ro n w0 ops Q l ((d, .int k (k.wrap (a * 2 ^ e))) :: r) ds m H) : WL P ro n w0 ops Q (⟨some d, .binOp .shl t x y t', ty, pos, after, none⟩ :: l) r ds m H :=
 .val hd (fun _ h => by cases h) (fun tmps w ho _ => by
  subst hye
  have h1 : ¬ ((e : Int) < 0) := by omega
  have h2 : min e k.bits = e := Nat.min_eq_left (by simpa using h0)
  simp [execOp, ho.ev hx, ho.ev hy, yH, binOp, Op.shift, h1, h2]) h
theorem ofInt8 {a : Int} (h : 0 ≤ a ∧ a ≤ 255) : (BitVec.ofInt 8 a).toNat = a.toNat := by
 rw [BitVec.toNat_ofInt]; norm_cast; omega
theorem WL.and8 (hx : r.ev x = some (.int .u8 a)) (hy : r.ev y = some (.int .u8 b)) (hd : Nat.blt d n = true) (ha : 0 ≤ a ∧ a ≤ 255) (hb : 0 ≤ b ∧ b ≤ 255)
  (h : WL P ro n w0 ops Q l ((d, .int .u8 ((a.toNat &&& b.toNat : Nat) : Int)) :: r) ds m H) : WL P ro n w0 ops Q (⟨some d, .binOp .and t x y t', ty, pos, after, none⟩ :: l) r ds m H := by
 refine .int2 (fun _ _ _ => yH _ _ _ _ _ _ _ _) (fun w => ?_) hx hy hd h
 have h1 := ofInt8 ha
 have h2 := ofInt8 hb
 have h3 : a.toNat &&& b.toNat ≤ a.toNat := Nat.and_le_left
 have h4 : IntKind.u8.wrap ((a.toNat &&& b.toNat : Nat) : Int) = ((a.toNat &&& b.toNat : Nat) : Int) := qH ⟨by omega, by omega⟩
 show (pure (Value.int IntKind.u8 (IntKind.u8.wrap (((BitVec.ofInt 8 a) &&& (BitVec.ofInt 8 b)).toNat : Int))) : Sem Value).run P w = _
 rw [BitVec.toNat_and, h1, h2, h4]; rfl
theorem WL.or8 (hx : r.ev x = some (.int .u8 a)) (hy : r.ev y = some (.int .u8 b)) (hd : Nat.blt d n = true) (ha : 0 ≤ a ∧ a ≤ 255) (hb : 0 ≤ b ∧ b ≤ 255)
  (h : WL P ro n w0 ops Q l ((d, .int .u8 ((a.toNat ||| b.toNat : Nat) : Int)) :: r) ds m H) : WL P ro n w0 ops Q (⟨some d, .binOp .or t x y t', ty, pos, after, none⟩ :: l) r ds m H := by
 refine .int2 (fun _ _ _ => yH _ _ _ _ _ _ _ _) (fun w => ?_) hx hy hd h
 have h1 := ofInt8 ha
 have h2 := ofInt8 hb
 have h3 : a.toNat ||| b.toNat < 2 ^ 8 := Nat.or_lt_two_pow (by omega) (by omega)
 have h4 : IntKind.u8.wrap ((a.toNat ||| b.toNat : Nat) : Int) = ((a.toNat ||| b.toNat : Nat) : Int) := qH ⟨by omega, by omega⟩
 show (pure (Value.int IntKind.u8 (IntKind.u8.wrap (((BitVec.ofInt 8 a) ||| (BitVec.ofInt 8 b)).toNat : Int))) : Sem Value).run P w = _
 rw [BitVec.toNat_or, h1, h2, h4]; rfl
theorem WL.neg (hx : r.ev x = some (.int k a)) (hd : Nat.blt d n = true) (h : WL P ro n w0 ops Q l ((d, .int k (k.wrap (-a))) :: r) ds m H) :
  WL P ro n w0 ops Q (⟨some d, .unOp .neg t x, ty, pos, after, none⟩ :: l) r ds m H :=
 .val hd (fun _ h => by cases h) (fun tmps w ho _ => by simp [execOp, ho.ev hx, Op.unary, Op.intArith]) h
theorem WL.neg64 (hx : r.ev x = some (.int .i64 a)) (hd : Nat.blt d n = true) (hb : -9223372036854775808 ≤ -a ∧ -a ≤ 9223372036854775807) (h : WL P ro n w0 ops Q l ((d, .int .i64 (-a)) :: r) ds m H) :
  WL P ro n w0 ops Q (⟨some d, .unOp .neg t x, ty, pos, after, none⟩ :: l) r ds m H :=
 .neg hx hd (by rw [uJ hb]; exact h)
theorem WL.not {b : Bool} (hx : r.ev x = some (.bool b)) (hd : Nat.blt d n = true) (h : WL P ro n w0 ops Q l ((d, .bool (!b)) :: r) ds m H) :
  WL P ro n w0 ops Q (⟨some d, .unOp .not t x, ty, pos, after, none⟩ :: l) r ds m H :=
 .val hd (fun _ h => by cases h) (fun tmps w ho _ => by simp [execOp, ho.ev hx, Op.unary]) h
theorem zBi {src dst : TypeId} {kd : IntKind} (hs : (P.underlying src).isSome = true) (hu : P.underlying dst = some (.int kd)) (w : World) : (convert src dst (.int k a)).run P w = .ok (.int kd (kd.wrap a)) w := by
 cases hq : P.underlying src with
 | none => simp [hq] at hs
 | some q => simp [convert, Sem.run_bind, run_underlying hq, run_underlying hu, Result.andThen_ok, Conv.intToInt]
theorem WL.conv {src dst : TypeId} {kd : IntKind} (hx : r.ev x = some (.int k a)) (hs : (P.underlying src).isSome = true) (hu : P.underlying dst = some (.int kd)) (hd : Nat.blt d n = true)
  (h : WL P ro n w0 ops Q l ((d, .int kd (kd.wrap a)) :: r) ds m H) : WL P ro n w0 ops Q (⟨some d, .convert src dst x, ty, pos, after, none⟩ :: l) r ds m H :=
 .val hd (fun _ h => by cases h) (fun tmps w ho _ => by simp only [execOp, ho.ev hx, Sem.run_bind, zBi hs hu, Result.andThen_ok, Sem.run_pure]) h
theorem WL.conv64 {src dst : TypeId} (hx : r.ev x = some (.int k a)) (hs : (P.underlying src).isSome = true) (hu : P.underlying dst = some (.int .i64)) (hd : Nat.blt d n = true)
  (hb : -9223372036854775808 ≤ a ∧ a ≤ 9223372036854775807)
  (h : WL P ro n w0 ops Q l ((d, .int .i64 a) :: r) ds m H) : WL P ro n w0 ops Q (⟨some d, .convert src dst x, ty, pos, after, none⟩ :: l) r ds m H :=
 .conv hx hs hu hd (by rw [uJ hb]; exact h)
theorem WL.conv32 {src dst : TypeId} (hx : r.ev x = some (.int k a)) (hs : (P.underlying src).isSome = true) (hu : P.underlying dst = some (.int .i32)) (hd : Nat.blt d n = true)
  (hb : -2147483648 ≤ a ∧ a ≤ 2147483647)
  (h : WL P ro n w0 ops Q l ((d, .int .i32 a) :: r) ds m H) : WL P ro n w0 ops Q (⟨some d, .convert src dst x, ty, pos, after, none⟩ :: l) r ds m H :=
 .conv hx hs hu hd (by rw [jN hb]; exact h)
theorem WL.conv8 {src dst : TypeId} (hx : r.ev x = some (.int k a)) (hs : (P.underlying src).isSome = true) (hu : P.underlying dst = some (.int .u8)) (hd : Nat.blt d n = true)
  (hb : 0 ≤ a ∧ a ≤ 255)
  (h : WL P ro n w0 ops Q l ((d, .int .u8 a) :: r) ds m H) : WL P ro n w0 ops Q (⟨some d, .convert src dst x, ty, pos, after, none⟩ :: l) r ds m H :=
 .conv hx hs hu hd (by rw [qH hb]; exact h)
theorem WL.conv8mod {src dst : TypeId} (hx : r.ev x = some (.int k a)) (hs : (P.underlying src).isSome = true) (hu : P.underlying dst = some (.int .u8)) (hd : Nat.blt d n = true)
  (h : WL P ro n w0 ops Q l ((d, .int .u8 (a % 256)) :: r) ds m H) : WL P ro n w0 ops Q (⟨some d, .convert src dst x, ty, pos, after, none⟩ :: l) r ds m H :=
 .conv hx hs hu hd (by
  have : IntKind.u8.wrap a = a % 256 := by simp [IntKind.wrap, IntKind.signed, IntKind.bits]
  rw [this]; exact h)
theorem WL.convu64 {src dst : TypeId} (hx : r.ev x = some (.int k a)) (hs : (P.underlying src).isSome = true) (hu : P.underlying dst = some (.int .u64)) (hd : Nat.blt d n = true)
  (hb : 0 ≤ a ∧ a ≤ 18446744073709551615)
  (h : WL P ro n w0 ops Q l ((d, .int .u64 a) :: r) ds m H) : WL P ro n w0 ops Q (⟨some d, .convert src dst x, ty, pos, after, none⟩ :: l) r ds m H :=
 .conv hx hs hu hd (by rw [zAw hb]; exact h)
theorem WL.min2 (hx : r.ev x = some (.int k a)) (hy : r.ev y = some (.int k b)) (hd : Nat.blt d n = true) (h : WL P ro n w0 ops Q l ((d, .int k (min a b)) :: r) ds m H) {ts : Array TypeId} :
  WL P ro n w0 ops Q (⟨some d, .call ⟨.builtin .min, #[x, y], ts⟩, ty, pos, after, none⟩ :: l) r ds m H :=
 .val hd (fun _ h => by cases h) (fun tmps w ho _ => by
  simp only [execOp, resolve, invoke, builtin, Sem.run_bind, Sem.run_pure, Result.andThen_ok, List.map_toArray, List.map_cons, List.map_nil, ho.ev hx, ho.ev hy, Builtin.min_, List.foldlM_cons, List.foldlM_nil, Builtin.min2]
  rw [Int.min_def]
  congr 2
  split <;> split <;> first | rfl | omega) h
theorem WL.max2 (hx : r.ev x = some (.int k a)) (hy : r.ev y = some (.int k b)) (hd : Nat.blt d n = true) (h : WL P ro n w0 ops Q l ((d, .int k (max a b)) :: r) ds m H) {ts : Array TypeId} :
  WL P ro n w0 ops Q (⟨some d, .call ⟨.builtin .max, #[x, y], ts⟩, ty, pos, after, none⟩ :: l) r ds m H :=
 .val hd (fun _ h => by cases h) (fun tmps w ho _ => by
  simp only [execOp, resolve, invoke, builtin, Sem.run_bind, Sem.run_pure, Result.andThen_ok, List.map_toArray, List.map_cons, List.map_nil, ho.ev hx, ho.ev hy, Builtin.max_, List.foldlM_cons, List.foldlM_nil, Builtin.max2]
  have e : (if a < b then b else a) = max a b := by rw [Int.max_def]; split <;> split <;> omega
  rw [← e]) h
end
end
end Go.Eng
namespace Go.Eng
open Go
abbrev nb (l : List UInt8) (k : Nat) : Nat := gb l k
def dl (l : List UInt8) : Nat × Nat :=
 let cont (k : Nat) : Bool := decide (k < l.length) && nb l k / 64 == 2
 let b0 := nb l 0
 if b0 < 0x80 then (b0, 1)
 else if b0 / 32 == 6 && cont 1 then
  let c := (b0 % 32) * 64 + nb l 1 % 64
  if c ≥ 0x80 then (c, 2) else (0xFFFD, 1)
 else if b0 / 16 == 14 && cont 1 && cont 2 then
  let c := (b0 % 16) * 4096 + (nb l 1 % 64) * 64 + nb l 2 % 64
  if c ≥ 0x800 && Utf8.valid c then (c, 3) else (0xFFFD, 1)
 else if b0 / 8 == 30 && cont 1 && cont 2 && cont 3 then
  let c := (b0 % 8) * 262144 + (nb l 1 % 64) * 4096 + (nb l 2 % 64) * 64 + nb l 3 % 64
  if c ≥ 0x10000 && Utf8.valid c then (c, 4) else (0xFFFD, 1)
 else (0xFFFD, 1)
theorem get!_eq (l : List UInt8) (k : Nat) : ((⟨l.toArray⟩ : ByteArray).get! k).toNat = nb l k := by
 simp only [ByteArray.get!, nb, gb]
 rw [getElem!_def]
 by_cases h : k < l.length
 ·simp [List.getElem?_eq_getElem h, List.getD_eq_getElem?_getD]
 ·simp [List.getElem?_eq_none (Nat.le_of_not_lt h), List.getD_eq_getElem?_getD]
  rfl
theorem zG5 (l : List UInt8) (i k : Nat) : nb (l.drop i) k = nb l (i + k) := by
 simp [nb, gb, List.getD_eq_getElem?_getD, List.getElem?_drop]
theorem zDT (l : List UInt8) (i : Nat) : Utf8.decode ⟨l.toArray⟩ i = dl (l.drop i) := by
 have hc : ∀ k, (decide (i + k < (⟨l.toArray⟩ : ByteArray).size) : Bool) = decide (k < (l.drop i).length) := by
  intro k; rw [yJ]; simp; omega
 simp only [Utf8.decode, dl, get!_eq, zG5, hc, Utf8.runeError, Nat.add_zero]
def fm (c : Nat) : List Nat :=
 if c < 0x80 then [c] else if c < 0x800 then [0xC0 + c / 64, 0x80 + c % 64]
 else if c < 0x10000 then [0xE0 + c / 4096, 0x80 + c / 64 % 64, 0x80 + c % 64]
 else [0xF0 + c / 262144, 0x80 + c / 4096 % 64, 0x80 + c / 64 % 64, 0x80 + c % 64]
def rn (r : Int) : Nat := if Utf8.valid r then r.toNat else 0xFFFD
def fmb (c : Nat) : List UInt8 := (fm c).map UInt8.ofNat
def encB (c : Nat) : ByteArray :=
 let b (n : Nat) : UInt8 := UInt8.ofNat n
 if c < 0x80 then ⟨#[b c]⟩
 else if c < 0x800 then ⟨#[b (0xC0 + c / 64), b (0x80 + c % 64)]⟩
 else if c < 0x10000 then ⟨#[b (0xE0 + c / 4096), b (0x80 + c / 64 % 64), b (0x80 + c % 64)]⟩
 else ⟨#[b (0xF0 + c / 262144), b (0x80 + c / 4096 % 64), b (0x80 + c / 64 % 64), b (0x80 + c % 64)]⟩
theorem zKd (c : Nat) : (encB c).data.toList = fmb c := by
 unfold encB fmb fm
 simp only []
 split
 ·rfl
 ·split
  ·rfl
  ·split <;> rfl
theorem zAb (r : Int) : (Utf8.encode r).data.toList = fmb (rn r) := zKd (rn r)
def okr (c : Nat) : Prop := c < 0xD800 ∨ (0xE000 ≤ c ∧ c ≤ 0x10FFFF)
theorem kZ (r : Int) : Utf8.valid r = true ↔ 0 ≤ r ∧ okr r.toNat := by
 simp [Utf8.valid, okr]; omega
theorem uN (c : Nat) : Utf8.valid (c : Int) = true ↔ okr c := by
 rw [kZ]; simp
theorem zKV (r : Int) : okr (rn r) := by
 unfold rn
 split
 ·rename_i h; exact ((kZ r).1 h).2
 ·right; decide
theorem zHQ {c : Nat} (h : okr c) : rn (c : Int) = c := by
 unfold rn; rw [if_pos ((uN c).2 h)]; simp
def wd (c : Nat) : Nat := if c < 0x80 then 1 else if c < 0x800 then 2 else if c < 0x10000 then 3 else 4
theorem zAf (c : Nat) : (fm c).length = wd c := by
 unfold fm wd; split
 ·rfl
 ·split
  ·rfl
  ·split <;> rfl
theorem xS (c : Nat) : (fmb c).length = wd c := by rw [fmb, List.length_map, zAf]
theorem zBB (c : Nat) : 1 ≤ wd c ∧ wd c ≤ 4 := by unfold wd; split <;> (try split) <;> (try split) <;> omega
def begins (l : List UInt8) (c : Nat) : Prop := wd c ≤ l.length ∧ ∀ k, k < wd c → nb l k = (fm c).getD k 0
theorem zDX (c k : Nat) (hc : c ≤ 0x10FFFF) (hk : k < wd c) : nb (fmb c) k = (fm c).getD k 0 := by
 have hl : k < (fm c).length := by rw [zAf]; exact hk
 simp only [nb, gb, fmb, List.getD_eq_getElem?_getD, List.getElem?_map, List.getElem?_eq_getElem hl, Option.map_some, Option.getD_some]
 rw [UInt8.toNat_ofNat']
 apply Nat.mod_eq_of_lt
 have : ∀ x ∈ fm c, x < 256 := by
  intro x hx
  unfold fm at hx
  split at hx
  ·simp at hx; omega
  ·split at hx
   ·simp at hx; omega
   ·split at hx <;> simp at hx <;> omega
 exact this _ (List.getElem_mem hl)
theorem qI (l : List UInt8) (c : Nat) (hc : c ≤ 0x10FFFF) : begins l c ↔ l.take (wd c) = fmb c := by
 constructor
 ·rintro ⟨h1, h2⟩
  apply List.ext_getElem?
  intro k
  by_cases hk : k < wd c
  ·have e := (h2 k hk).trans (zDX c k hc hk).symm
   have hl : k < l.length := by omega
   have hf : k < (fmb c).length := by rw [xS]; exact hk
   rw [List.getElem?_take, if_pos hk, List.getElem?_eq_getElem hl, List.getElem?_eq_getElem hf]
   simp only [nb, gb, List.getD_eq_getElem?_getD, List.getElem?_eq_getElem hl, List.getElem?_eq_getElem hf, Option.getD_some] at e
   exact congrArg some (UInt8.toNat_inj.1 e)
  ·rw [List.getElem?_take, if_neg hk, List.getElem?_eq_none (by rw [xS]; omega)]
 ·intro h
  have hl : wd c ≤ l.length := by
   have := congrArg List.length h
   rw [xS, List.length_take] at this; omega
  refine ⟨hl, fun k hk => ?_⟩
  rw [← zDX c k hc hk, ← h]
  simp [nb, gb, List.getD_eq_getElem?_getD, hk]
theorem uY {l : List UInt8} {c : Nat} (hc : okr c) (h : begins l c) : dl l = (c, wd c) := by
 obtain ⟨h1, h2⟩ := h
 have hle : c ≤ 0x10FFFF := by rcases hc with h | h <;> omega
 unfold wd at h1 h2 ⊢
 unfold fm at h2
 unfold dl
 by_cases a1 : c < 0x80
 ·simp only [a1, if_true] at h1 h2 ⊢
  have e0 := h2 0 (by omega)
  simp at e0
  simp [e0, a1]
 ·by_cases a2 : c < 0x800
  ·simp only [a1, a2, if_true, if_false] at h1 h2 ⊢
   have e0 := h2 0 (by omega); have e1 := h2 1 (by omega)
   simp at e0 e1
   have l1 : 1 < l.length := by omega
   have b0 : ¬ nb l 0 < 128 := by omega
   have b1 : nb l 0 / 32 = 6 := by omega
   have b2 : nb l 1 / 64 = 2 := by omega
   have b3 : nb l 0 % 32 * 64 + nb l 1 % 64 = c := by omega
   simp [b0, b1, b2, b3, l1, show c ≥ 128 by omega]
  ·by_cases a3 : c < 0x10000
   ·simp only [a1, a2, a3, if_true, if_false] at h1 h2 ⊢
    have e0 := h2 0 (by omega); have e1 := h2 1 (by omega); have e2 := h2 2 (by omega)
    simp at e0 e1 e2
    have l1 : 1 < l.length := by omega
    have l2 : 2 < l.length := by omega
    have b0 : ¬ nb l 0 < 128 := by omega
    have b1 : ¬ nb l 0 / 32 = 6 := by omega
    have b2 : nb l 0 / 16 = 14 := by omega
    have b3 : nb l 1 / 64 = 2 := by omega
    have b4 : nb l 2 / 64 = 2 := by omega
    have b5 : nb l 0 % 16 * 4096 + nb l 1 % 64 * 64 + nb l 2 % 64 = c := by omega
    have b6 := (uN c).2 hc
    simp only [b5]
    simp [b0, b1, b2, b3, b4, l1, l2, b6, show c ≥ 2048 by omega]
   ·simp only [a1, a2, a3, if_false] at h1 h2 ⊢
    have e0 := h2 0 (by omega); have e1 := h2 1 (by omega); have e2 := h2 2 (by omega); have e3 := h2 3 (by omega)
    simp at e0 e1 e2 e3
    have l1 : 1 < l.length := by omega
    have l2 : 2 < l.length := by omega
    have l3 : 3 < l.length := by omega
    have b0 : ¬ nb l 0 < 128 := by omega
    have b1 : ¬ nb l 0 / 32 = 6 := by omega
    have b2 : ¬ nb l 0 / 16 = 14 := by omega
    have b2' : nb l 0 / 8 = 30 := by omega
    have b3 : nb l 1 / 64 = 2 := by omega
    have b4 : nb l 2 / 64 = 2 := by omega
    have b4' : nb l 3 / 64 = 2 := by omega
    have b5 : nb l 0 % 8 * 262144 + nb l 1 % 64 * 4096 + nb l 2 % 64 * 64 + nb l 3 % 64 = c := by omega
    have b6 := (uN c).2 hc
    simp only [b5]
    simp [b0, b1, b2, b2', b3, b4, b4', l1, l2, l3, b6, show c ≥ 65536 by omega]
theorem vZ (l : List UInt8) (hl : 0 < l.length) : (okr (dl l).1 ∧ (dl l).2 = wd (dl l).1 ∧ begins l (dl l).1) ∨ (dl l = (0xFFFD, 1) ∧ ∀ c, okr c → ¬ begins l c) := by
 by_cases hx : ∃ c, okr c ∧ begins l c
 ·obtain ⟨c, hc, hb⟩ := hx
  have := uY hc hb
  rw [this]
  exact .inl ⟨hc, rfl, hb⟩
 ·have hno : ∀ c, okr c → ¬ begins l c := fun c hc hb => hx ⟨c, hc, hb⟩
  refine .inr ⟨?_, hno⟩
  have hlt : ∀ k, nb l k < 256 := fun k => zIz l k
  have g0 := hlt 0; have g1 := hlt 1; have g2 := hlt 2; have g3 := hlt 3
  unfold dl
  simp only []
  by_cases a1 : nb l 0 < 128
  ·exfalso
   refine hno (nb l 0) (.inl (by omega)) ⟨by unfold wd; rw [if_pos a1]; omega, fun k hk => ?_⟩
   unfold wd at hk; rw [if_pos a1] at hk
   obtain rfl : k = 0 := by omega
   unfold fm; rw [if_pos a1]; rfl
  rw [if_neg a1]
  split
  ·rename_i h
   simp at h
   obtain ⟨h1, h2, h3⟩ := h
   split
   ·rename_i hc
    exfalso
    have n1 : ¬ nb l 0 % 32 * 64 + nb l 1 % 64 < 128 := by omega
    have n2 : nb l 0 % 32 * 64 + nb l 1 % 64 < 2048 := by omega
    refine hno (nb l 0 % 32 * 64 + nb l 1 % 64) (.inl (by omega)) ⟨by unfold wd; rw [if_neg n1, if_pos n2]; omega, fun k hk => ?_⟩
    unfold wd at hk; rw [if_neg n1, if_pos n2] at hk
    unfold fm; rw [if_neg n1, if_pos n2]
    rcases (show k = 0 ∨ k = 1 by omega) with rfl | rfl <;> simp <;> omega
   ·rfl
  ·split
   ·rename_i h0 h
    simp at h
    obtain ⟨⟨h1, h2, h3⟩, h4, h5⟩ := h
    split
    ·rename_i hc
     exfalso
     simp at hc
     obtain ⟨hc1, hc2⟩ := hc
     have hok := (uN (nb l 0 % 16 * 4096 + nb l 1 % 64 * 64 + nb l 2 % 64)).1 (by simpa using hc2)
     generalize hcc : nb l 0 % 16 * 4096 + nb l 1 % 64 * 64 + nb l 2 % 64 = c at *
     have n1 : ¬ c < 128 := by omega
     have n2 : ¬ c < 2048 := by omega
     have n3 : c < 65536 := by omega
     refine hno c hok ⟨by unfold wd; rw [if_neg n1, if_neg n2, if_pos n3]; omega, fun k hk => ?_⟩
     unfold wd at hk; rw [if_neg n1, if_neg n2, if_pos n3] at hk
     unfold fm; rw [if_neg n1, if_neg n2, if_pos n3]
     rcases (show k = 0 ∨ k = 1 ∨ k = 2 by omega) with rfl | rfl | rfl <;> simp <;> omega
    ·rfl
   ·split
    ·rename_i h
     simp at h
     obtain ⟨⟨⟨h1, h2, h3⟩, h4, h5⟩, h6, h7⟩ := h
     split
     ·rename_i hc
      exfalso
      simp at hc
      obtain ⟨hc1, hc2⟩ := hc
      have hok := (uN (nb l 0 % 8 * 262144 + nb l 1 % 64 * 4096 + nb l 2 % 64 * 64 + nb l 3 % 64)).1 (by simpa using hc2)
      generalize hcc : nb l 0 % 8 * 262144 + nb l 1 % 64 * 4096 + nb l 2 % 64 * 64 + nb l 3 % 64 = c at *
      have n1 : ¬ c < 128 := by omega
      have n2 : ¬ c < 2048 := by omega
      have n3 : ¬ c < 65536 := by omega
      have n4 : c < 2097152 := by omega
      refine hno c hok ⟨by unfold wd; rw [if_neg n1, if_neg n2, if_neg n3]; omega, fun k hk => ?_⟩
      unfold wd at hk; rw [if_neg n1, if_neg n2, if_neg n3] at hk
      unfold fm; rw [if_neg n1, if_neg n2, if_neg n3]
      rcases (show k = 0 ∨ k = 1 ∨ k = 2 ∨ k = 3 by omega) with rfl | rfl | rfl | rfl <;> simp <;> omega
     ·rfl
    ·rfl
end Go.Eng
namespace Go.Eng
open Go Go.RowKit
section
variable {P : Program} {ro : Option Nat} {n : Nat} {w0 : World} {Q : Exit → Act → World → Prop} {r : Env} {ds : List Dfr} {m : Mem} {H : SHeap}
 {ops : Array Oper} {l : List Oper} {d : Nat} {ty : TypeId} {pos : String} {after : Array Edge}
section
variable {x y : Operand} {s u : List UInt8} {t t' : TypeId} {i j : Int}
theorem zIG (op : BinOp) (tx : TypeId) (vx vy : Operand) : eqGuard op tx vx vy (str s) (str u) = pure () := by
 cases op <;> rfl
theorem WL.str2 {op : BinOp} {v : Value} (hrun : ∀ w, (Op.stringOp op ⟨s.toArray⟩ ⟨u.toArray⟩).run P w = .ok v w) (hno : op ≠ .shl ∧ op ≠ .shr)
  (hx : r.ev x = some (str s)) (hy : r.ev y = some (str u)) (hd : Nat.blt d n = true) (h : WL P ro n w0 ops Q l ((d, v) :: r) ds m H) :
  WL P ro n w0 ops Q (⟨some d, .binOp op t x y t', ty, pos, after, none⟩ :: l) r ds m H :=
 .val hd (fun _ h => by cases h) (fun tmps w ho _ => by
  have hb : (binOp op t (str s) (str u)).run P w = .ok v w := by
   rw [← hrun w]; cases op <;> first | rfl | exact absurd rfl hno.1 | exact absurd rfl hno.2
  simp only [execOp, ho.ev hx, ho.ev hy, zIG, Sem.run_bind, Sem.run_pure, Result.andThen_ok, hb]) h
theorem WL.eqlS (hx : r.ev x = some (str s)) (hy : r.ev y = some (str u)) (hd : Nat.blt d n = true)
  (h : WL P ro n w0 ops Q l ((d, .bool (dcd (s = u))) :: r) ds m H) : WL P ro n w0 ops Q (⟨some d, .binOp .eql t x y t', ty, pos, after, none⟩ :: l) r ds m H :=
 .str2 (fun w => by simp only [Op.stringOp, jD]; rw [Bool.eq_iff_iff.2 (by simp [y6] : (s == u) = true ↔ dcd (s = u) = true)]; rfl) ⟨by decide, by decide⟩ hx hy hd h
theorem WL.neqS (hx : r.ev x = some (str s)) (hy : r.ev y = some (str u)) (hd : Nat.blt d n = true)
  (h : WL P ro n w0 ops Q l ((d, .bool (!dcd (s = u))) :: r) ds m H) : WL P ro n w0 ops Q (⟨some d, .binOp .neq t x y t', ty, pos, after, none⟩ :: l) r ds m H :=
 .str2 (fun w => by simp only [Op.stringOp, jD]; rw [Bool.eq_iff_iff.2 (by simp [y6] : (s == u) = true ↔ dcd (s = u) = true)]; rfl) ⟨by decide, by decide⟩ hx hy hd h
theorem WL.lssS (hx : r.ev x = some (str s)) (hy : r.ev y = some (str u)) (hd : Nat.blt d n = true)
  (h : WL P ro n w0 ops Q l ((d, .bool (Op.bytesLess s u)) :: r) ds m H) : WL P ro n w0 ops Q (⟨some d, .binOp .lss t x y t', ty, pos, after, none⟩ :: l) r ds m H :=
 .str2 (fun w => by simp only [Op.stringOp, jD]; rfl) ⟨by decide, by decide⟩ hx hy hd h
theorem WL.lenS {t : TypeId} (hx : r.ev x = some (str s)) (hu : P.underlying t = some .string) (hd : Nat.blt d n = true)
  (h : WL P ro n w0 ops Q l ((d, .int .i64 (s.length : Int)) :: r) ds m H) : WL P ro n w0 ops Q (⟨some d, .call ⟨.builtin .len, #[x], #[t]⟩, ty, pos, after, none⟩ :: l) r ds m H :=
 .val hd (fun _ h => by cases h) (fun tmps w ho _ => by
  simp only [execOp, resolve, invoke, builtin, Builtin.len_, Sem.run_bind, Sem.run_pure, Result.andThen_ok, List.map_toArray, List.map_cons, List.map_nil, ho.ev hx]
  show (Sem.run P ((underlying t).bind _) w).andThen _ = _
  rw [Sem.run_bind', run_underlying hu, Result.andThen_ok]
  rw [← yJ s]; rfl) h
theorem WL.indexS {ki : IntKind} {t : TypeId} {z : Int} {k : Nat} (hx : r.ev x = some (str s)) (hy : r.ev y = some (.int ki z)) (hz : z = (k : Int)) (hu : P.underlying t = some .string) (hd : Nat.blt d n = true) (hi : k < s.length)
  (h : WL P ro n w0 ops Q l ((d, .int .u8 (gb s k : Int)) :: r) ds m H) : WL P ro n w0 ops Q (⟨some d, .index t x y, ty, pos, after, none⟩ :: l) r ds m H :=
 .val hd (fun _ h => by cases h) (fun tmps w ho _ => by
  subst hz
  have h2 : (⟨s.toArray⟩ : ByteArray)[k]? = some s[k] := by
   have hz : k < (⟨s.toArray⟩ : ByteArray).size := by rw [yJ]; exact hi
   rw [getElem?_pos (⟨s.toArray⟩ : ByteArray) k hz]
   rfl
  have h3 : gb s k = (s[k]).toNat := by simp [gb, List.getD_eq_getElem?_getD, List.getElem?_eq_getElem hi]
  have h0 : (0 : Int) ≤ (k : Int) := by omega
  simp only [execOp, Instr.index, asIntOf, Sem.run_bind, Sem.run_pure, run_underlying hu, Result.andThen_ok, ho.ev hx, ho.ev hy, h0, if_true, Int.toNat_natCast, h2, h3]) h
theorem zDa (s : List UInt8) (a b : Nat) : (⟨s.toArray⟩ : ByteArray).extract a b = ⟨((s.take b).drop a).toArray⟩ := by
 apply ByteArray.ext
 apply Array.ext'
 simp [ByteArray.data_extract, List.drop_take]
theorem v6 {k : IntKind} {y : Nat} (h0 : 0 ≤ i) (h1 : i ≤ y) (c : BoundsCode) (w : World) : (Instr.sliceBound (.int k i) y c).run P w = .ok i.toNat w := by
 simp [Instr.sliceBound, asIntOf, h0, h1]
theorem kR {t : TypeId} (hu : P.underlying t = some .string) (lo hi : Option Value) (s : List UInt8) (w : World) :
  (Instr.sliceAt t (str s) lo hi none).run P w = ((Instr.sliceBounds false s.length s.length lo hi none).run P w).andThen fun p w' => .ok (str ((s.take p.2.1).drop p.1)) w' := by
 simp only [Instr.sliceAt, Instr.slice, Sem.run_bind, run_underlying hu, Result.andThen_ok]
 simp only [Option.isSome_none, Bool.false_eq_true, if_false, Sem.run_bind, yJ, Sem.run_pure, zDa]
theorem WL.sliceLH {kl kh : IntKind} {lo hi : Operand} (hx : r.ev x = some (str s)) (hl : r.ev lo = some (.int kl i)) (hh : r.ev hi = some (.int kh j)) {a b : Nat} (hia : i = (a : Int)) (hjb : j = (b : Int)) (hu : P.underlying t = some .string) (hd : Nat.blt d n = true)
  (hb : a ≤ b ∧ b ≤ s.length) (h : WL P ro n w0 ops Q l ((d, str ((s.take b).drop a)) :: r) ds m H) :
  WL P ro n w0 ops Q (⟨some d, .slice t x (some lo) (some hi) none, ty, pos, after, none⟩ :: l) r ds m H :=
 .val hd (fun _ h => by cases h) (fun tmps w ho _ => by
  subst hia; subst hjb
  have e1 := v6 (P := P) (i := (a : Int)) (k := kl) (y := b) (by omega) (by omega) .sliceB w
  have e2 := v6 (P := P) (i := (b : Int)) (k := kh) (y := s.length) (by omega) (by omega) .sliceAlen w
  simp only [execOp, Option.map_some, Option.map_none, Sem.run_bind, ho.ev hx, ho.ev hl, ho.ev hh, kR hu, Instr.sliceBounds]
  simp [e1, e2, Result.andThen]) h
theorem WL.sliceL {kl : IntKind} {lo : Operand} (hx : r.ev x = some (str s)) (hl : r.ev lo = some (.int kl i)) {a : Nat} (hia : i = (a : Int)) (hu : P.underlying t = some .string) (hd : Nat.blt d n = true)
  (hb : a ≤ s.length) (h : WL P ro n w0 ops Q l ((d, str (s.drop a)) :: r) ds m H) :
  WL P ro n w0 ops Q (⟨some d, .slice t x (some lo) none none, ty, pos, after, none⟩ :: l) r ds m H :=
 .val hd (fun _ h => by cases h) (fun tmps w ho _ => by
  subst hia
  have e1 := v6 (P := P) (i := (a : Int)) (k := kl) (y := s.length) (by omega) (by omega) .sliceB w
  simp only [execOp, Option.map_some, Option.map_none, Sem.run_bind, ho.ev hx, ho.ev hl, kR hu, Instr.sliceBounds]
  simp [e1, Result.andThen]) h
theorem WL.sliceH {kh : IntKind} {hi : Operand} (hx : r.ev x = some (str s)) (hh : r.ev hi = some (.int kh j)) {b : Nat} (hjb : j = (b : Int)) (hu : P.underlying t = some .string) (hd : Nat.blt d n = true)
  (hb : b ≤ s.length) (h : WL P ro n w0 ops Q l ((d, str (s.take b)) :: r) ds m H) :
  WL P ro n w0 ops Q (⟨some d, .slice t x none (some hi) none, ty, pos, after, none⟩ :: l) r ds m H :=
 .val hd (fun _ h => by cases h) (fun tmps w ho _ => by
  subst hjb
  have e2 := v6 (P := P) (i := (b : Int)) (k := kh) (y := s.length) (by omega) (by omega) .sliceAlen w
  simp only [execOp, Option.map_some, Option.map_none, Sem.run_bind, ho.ev hx, ho.ev hh, kR hu, Instr.sliceBounds]
  simp [e2, Result.andThen]) h
theorem WL.convRS {src dst : TypeId} {k : IntKind} {a : Int} (hx : r.ev x = some (.int k a)) (hs : (P.underlying src).isSome = true) (hu : P.underlying dst = some .string) (hd : Nat.blt d n = true)
  (h : WL P ro n w0 ops Q l ((d, str (Utf8.encode a).data.toList) :: r) ds m H) : WL P ro n w0 ops Q (⟨some d, .convert src dst x, ty, pos, after, none⟩ :: l) r ds m H :=
 .val hd (fun _ h => by cases h) (fun tmps w ho _ => by
  cases hq : P.underlying src with
  | none => simp [hq] at hs
  | some q =>
   simp only [execOp, ho.ev hx, convert, Sem.run_bind, run_underlying hq, run_underlying hu, Result.andThen_ok]
   rfl) h
end
section
variable {x : Operand} {s : List UInt8} {t : TypeId}
theorem WL.rangeS (hx : r.ev x = some (str s)) (hu : P.underlying t = some .string) (hd : Nat.blt d n = true)
  (h : ∀ b, WL P ro n w0 ops Q l ((d, .pointer (some ⟨b, 0, none⟩)) :: r) ds m (.blk b (.stringIter ⟨s.toArray⟩ 0) :: H)) :
  WL P ro n w0 ops Q (⟨some d, .range t x, ty, pos, after, none⟩ :: l) r ds m H :=
 .gen (fun v m' H' => ∃ b, v = .pointer (some ⟨b, 0, none⟩) ∧ m' = m ∧ H' = .blk b (.stringIter ⟨s.toArray⟩ 0) :: H) hd (fun _ h => by cases h)
  (fun tmps w ho hs => ⟨_, m, _, w.alloc (.stringIter ⟨s.toArray⟩ 0), by
   simp only [execOp, Instr.range, Sem.run_bind, run_underlying hu, Result.andThen_ok, ho.ev hx, Sem.run_pure, run_newObj_alloc], hs.alloc _, w.heap.size, rfl, rfl, rfl⟩)
  (by rintro _ _ _ ⟨b, rfl, rfl, rfl⟩; exact h b)
inductive Repl (i j : Item) : SHeap → SHeap → Prop
 | here {H : SHeap} : Repl i j (i :: H) (j :: H)
 | there {k : Item} {H H' : SHeap} : Repl i j H H' → Repl i j (k :: H) (k :: H')
theorem Repl.perm {i j : Item} {H H' : SHeap} (h : Repl i j H H') : ∃ H1, List.Perm H (i :: H1) ∧ List.Perm H' (j :: H1) := by
 induction h with
 | here => exact ⟨_, List.Perm.refl _, List.Perm.refl _⟩
 | there _ ih =>
  obtain ⟨H1, h1, h2⟩ := ih
  exact ⟨_ :: H1, (List.Perm.cons _ h1).trans (List.Perm.swap _ _ _), (List.Perm.cons _ h2).trans (List.Perm.swap _ _ _)⟩
theorem Repl.mem {i j : Item} {H H' : SHeap} (h : Repl i j H H') : i ∈ H := by
 obtain ⟨H1, h1, _⟩ := h.perm
 exact h1.mem_iff.2 List.mem_cons_self
inductive Out (i : Item) : SHeap → SHeap → Prop
 | here {H : SHeap} : Out i (i :: H) H
 | there {k : Item} {H H' : SHeap} : Out i H H' → Out i (k :: H) (k :: H')
theorem Out.perm {i : Item} {H H' : SHeap} (h : Out i H H') : List.Perm H (i :: H') := by
 induction h with
 | here => exact List.Perm.refl _
 | there _ ih => exact (List.Perm.cons _ ih).trans (List.Perm.swap _ _ _)
theorem Sat.repl {i j : Item} {H H' : SHeap} {w w' : World} (h : Sat w0 m H w) (hr : Repl i j H H') (ho : w'.os = w.os) (ht : w'.tape = w.tape) (hu : w'.output = w.output)
  (hz : w.heap.size ≤ w'.heap.size) (hs : ∀ b, b < w.heap.size → b ∉ i.foot → w'.heap[b]? = w.heap[b]?) (hj : j.holds w')
  (hf : ∀ b ∈ j.foot, b ∈ i.foot ∨ w.heap.size ≤ b) (hn : j.foot.Nodup) : Sat w0 m H' w' := by
 obtain ⟨H1, h1, h2⟩ := hr.perm
 exact ((h.perm h1).turn ho ht hu hz hs hj hf hn).perm h2.symm
theorem Sat.replObj {b : Nat} {o o' : Obj} {H H' : SHeap} {w : World} (h : Sat w0 m H w) (hr : Repl (.blk b o) (.blk b o') H H') : Sat w0 m H' (w.putObj b o') :=
 h.repl hr rfl rfl rfl (by simp) (fun k _ hk => World.putObj_heap_other (by simpa [Item.foot] using hk))
  (World.putObj_heap_same (Array.getElem?_eq_some_iff.1 (h.own _ hr.mem)).1) (fun _ hx => .inl hx) (by simp [Item.foot])
theorem WL.nextS {b k : Nat} {H' : SHeap} (hx : r.ev x = some (.pointer (some ⟨b, 0, none⟩))) (hr : Repl (.blk b (.stringIter ⟨s.toArray⟩ k)) (.blk b (.stringIter ⟨s.toArray⟩ (k + (dl (s.drop k)).2))) H H')
  (hk : k < s.length) (hd : Nat.blt d n = true)
  (h : WL P ro n w0 ops Q l ((d, .tuple #[.bool true, .int .i64 (k : Int), .int .i32 ((dl (s.drop k)).1 : Int)]) :: r) ds m H') :
  WL P ro n w0 ops Q (⟨some d, .next x true, ty, pos, after, none⟩ :: l) r ds m H :=
 .gen (fun v m' H'' => v = .tuple #[.bool true, .int .i64 (k : Int), .int .i32 ((dl (s.drop k)).1 : Int)] ∧ m' = m ∧ H'' = H') hd (fun _ h => by cases h)
  (fun tmps w ho hs => ⟨_, m, H', w.putObj b (.stringIter ⟨s.toArray⟩ (k + (dl (s.drop k)).2)), by
   have hb : w.heap[b]? = some (.stringIter ⟨s.toArray⟩ k) := hs.own _ hr.mem
   have h1 : (getObj b).run P w = .ok (.stringIter ⟨s.toArray⟩ k) w := by simp [getObj, Sem.run, hb]
   have h2 : ∀ o, (setObj b o).run P w = .ok () (w.putObj b o) := fun o => by simp [setObj, Sem.run, hb, World.putObj]
   simp only [execOp, Instr.next, Sem.run_bind, ho.ev hx, h1, Result.andThen_ok, yJ, hk, if_true, h2, Sem.run_pure, zDT]
   rfl, hs.replObj hr, rfl, rfl, rfl⟩)
  (by rintro _ _ _ ⟨rfl, rfl, rfl⟩; exact h)
theorem WL.nextEnd {b k : Nat} {H' : SHeap} (hx : r.ev x = some (.pointer (some ⟨b, 0, none⟩))) (hr : Out (.blk b (.stringIter ⟨s.toArray⟩ k)) H H')
  (hk : ¬ k < s.length) (hd : Nat.blt d n = true) (h : WL P ro n w0 ops Q l ((d, .tuple #[.bool false]) :: r) ds m H') :
  WL P ro n w0 ops Q (⟨some d, .next x true, ty, pos, after, none⟩ :: l) r ds m H :=
 .gen (fun v m' H'' => v = .tuple #[.bool false] ∧ m' = m ∧ H'' = H') hd (fun _ h => by cases h)
  (fun tmps w ho hs => ⟨_, m, H', w, by
   have hb : w.heap[b]? = some (.stringIter ⟨s.toArray⟩ k) := hs.own _ (hr.perm.mem_iff.2 List.mem_cons_self)
   have h1 : (getObj b).run P w = .ok (.stringIter ⟨s.toArray⟩ k) w := by simp [getObj, Sem.run, hb]
   simp only [execOp, Instr.next, Sem.run_bind, ho.ev hx, h1, Result.andThen_ok, yJ, hk, if_false, Sem.run_pure], (hs.perm hr.perm).drop, rfl, rfl, rfl⟩)
  (by rintro _ _ _ ⟨rfl, rfl, rfl⟩; exact h)
end
theorem WL.callF {f : FuncId} {fn : Func} {c : Code} {args : List Operand} {vs : List Value} {ts : Array TypeId} {Post : Value → Mem → SHeap → Prop}
  (hf : P.funcs[f]? = some fn) (hname : (fn.name == "runtime.NumGoroutine") = false) (hb : fn.body = some c)
  (hv : r.evs args = some vs) (hd : Nat.blt d n = true) (hs : Does P f vs.toArray w0 m H Post) (h : ∀ v m' H', Post v m' H' → WL P ro n w0 ops Q l ((d, v) :: r) ds m' H') :
  WL P ro n w0 ops Q (⟨some d, .call ⟨.value (.func f), args.toArray, ts⟩, ty, pos, after, none⟩ :: l) r ds m H := by
 refine .enter (fun d' e => by cases e; simpa [Nat.blt_eq] using hd) (fun _ h => by cases h) (fun tmps w ho _ => ?_) hs h
 have e1 := ho.evs (marks ds) hv
 have h1 : fn.name ≠ "runtime.NumGoroutine" := by simpa using hname
 have h2 : ∀ a : Array Value, (callFunc f a).run P w = .ok (.enter f a) w := fun a => by simp [callFunc, hf, h1, hb]
 simp only [execOp, resolve, Sem.run_bind, List.map_toArray, e1]
 simp [Act.eval, Deferred.ofValue, invoke, h2, Result.andThen]
theorem zA {f : FuncId} {fn : Func} {c : Code} {args : List Operand} {vs : List Value} {ts : Array TypeId} {Post : Value → Mem → SHeap → Prop} (hf : P.funcs[f]? = some fn) (h : ∀ v m' H', Post v m' H' → WL P ro n w0 ops Q l ((d, v) :: r) ds m' H') (hname : (fn.name == "runtime.NumGoroutine") = false := by exact rfl) (hb : fn.body = some c := by exact rfl) (hv : r.evs args = some vs := by exact rfl) (hd : Nat.blt d n = true := by exact rfl) (hs : Does P f vs.toArray w0 m H Post) : WL P ro n w0 ops Q (⟨some d, .call ⟨.value (.func f), args.toArray, ts⟩, ty, pos, after, none⟩ :: l) r ds m H := WL.callF hf hname hb hv hd hs h
end
end Go.Eng
namespace Go.Eng
open Go Go.RowKit
def Cell (w0 : World) (m : Mem) (H : SHeap) (a : Addr) (v : Value) : Prop := ∀ w, Sat w0 m H w → w.cell? a = some v
def Cells (w0 : World) (m : Mem) (H : SHeap) (a : Addr) (vs : List Value) : Prop := ∀ w, Sat w0 m H w → ∀ j v, vs[j]? = some v → w.cell? (a.add j) = some v
def Loads (P : Program) (w0 : World) (m : Mem) (H : SHeap) (t : TypeId) (a : Addr) (v : Value) : Prop := ∀ w, Sat w0 m H w → (loadVar t a).run P w = .ok v w
inductive Seg : List Value → Nat → Nat → List Value → Prop
 | nil {L : List Value} {o : Nat} : Seg L o 0 []
 | cons {L : List Value} {o k : Nat} {v : Value} {vs : List Value} : L[o]? = some v → Seg L (o + 1) k vs → Seg L o (k + 1) (v :: vs)
theorem Seg.at_ {L vs : List Value} {o k : Nat} (h : Seg L o k vs) : vs.length = k ∧ ∀ j v, vs[j]? = some v → L[o + j]? = some v := by
 induction h with
 | nil => exact ⟨rfl, fun j v h => by simp at h⟩
 | cons h1 _ ih =>
  refine ⟨by simp [ih.1], fun j v hj => ?_⟩
  cases j with
  | zero => simp at hj; subst hj; exact h1
  | succ j =>
   have := ih.2 j v (by simpa using hj)
   rw [← this]; congr 1; omega
inductive NF : List Value → List Value → Prop
 | nil {L : List Value} : L = [] → NF L []
 | cons {L L' : List Value} {v : Value} {vs : List Value} : L = v :: L' → NF L' vs → NF L (v :: vs)
theorem NF.eq {L vs : List Value} (h : NF L vs) : L = vs := by
 induction h with
 | nil h => exact h
 | cons h _ ih => rw [h, ih]
theorem xP (b o j : Nat) : (⟨b, o, none⟩ : Addr).add j = ⟨b, o + j, none⟩ := by
 unfold Addr.add
 split
 ·rename_i h; subst h; rfl
 ·rfl
theorem w9 {a : Addr} (h : a.spot = none) (j : Nat) : a.add j = ⟨a.block, a.off + j, none⟩ := by
 obtain ⟨b, o, s⟩ := a
 simp only at h; subst h
 exact xP b o j
section
variable {P : Program} {ro : Option Nat} {n : Nat} {w0 : World} {Q : Exit → Act → World → Prop} {r : Env} {ds : List Dfr} {m : Mem} {H : SHeap}
 {ops : Array Oper} {l : List Oper} {d : Nat} {ty : TypeId} {pos : String} {after : Array Edge}
theorem Cell.blk {b o : Nat} {L : List Value} {T : TypeId} {fz : Nat × Nat} {v : Value} (hm : Item.blk b (.cells L.toArray T fz) ∈ H) (hv : L[o]? = some v) : Cell w0 m H ⟨b, o, none⟩ v := by
 intro w hs
 have : w.heap[b]? = _ := hs.own _ hm
 simp [World.cell?, this, hv]
theorem Cells.blk {b o k : Nat} {L vs : List Value} {T : TypeId} {fz : Nat × Nat} (hm : Item.blk b (.cells L.toArray T fz) ∈ H) (hv : Seg L o k vs) : Cells w0 m H ⟨b, o, none⟩ vs := by
 intro w hs j v hj
 rw [xP]
 exact Cell.blk hm (hv.at_.2 j v hj) w hs
theorem uG : ∀ {es : List (List Value)} {sz i : Nat} {e : List Value}, (∀ x ∈ es, x.length = sz) → es[i]? = some e → ∀ j v, e[j]? = some v → es.flatten[i * sz + j]? = some v
 | x :: es, sz, 0, e, hl, hi, j, v, hj => by
  simp at hi; subst hi
  rw [List.flatten_cons, Nat.zero_mul, Nat.zero_add, List.getElem?_append_left (List.getElem?_eq_some_iff.1 hj).1]
  exact hj
 | x :: es, sz, i + 1, e, hl, hi, j, v, hj => by
  have hx := hl x List.mem_cons_self
  rw [List.flatten_cons, List.getElem?_append_right (by rw [hx, Nat.succ_mul]; omega)]
  rw [show (i + 1) * sz + j - x.length = i * sz + j by rw [hx, Nat.succ_mul]; omega]
  exact uG (fun y hy => hl y (List.mem_cons_of_mem _ hy)) (by simpa using hi) j v hj
theorem zJV {w : World} {a : Addr} {cap : Nat} {T : TypeId} {sz : Nat} {es : List (List Value)} {i : Nat} {e : List Value} (h : Item.holds w (.row (some a) cap T sz es)) (hi : es[i]? = some e) :
  a.spot = none ∧ ∀ j v, e[j]? = some v → w.cell? (a.add (i * sz + j)) = some v := by
 obtain ⟨arr, fz, h1, h2, h3, h4, h5, h6, _⟩ := h
 have hsp : a.spot = none := by rw [h1]
 have hoff : a.off = 0 := by rw [h1]
 refine ⟨hsp, fun j v hj => ?_⟩
 have h7 := uG h6 hi j v hj
 rw [← h5, List.getElem?_take] at h7
 split at h7
 ·rw [w9 hsp, hoff]
  simp only [World.cell?, h2]
  simpa using h7
 ·cases h7
theorem Cells.row {a : Addr} {cap : Nat} {T : TypeId} {sz k i : Nat} {es : List (List Value)} {e : List Value} (hm : Item.row (some a) cap T sz es ∈ H) (hi : es[i]? = some e) (hk : k = i * sz) :
  Cells w0 m H (a.add k) e := by
 subst hk
 intro w hs j v hj
 have hr := zJV (hs.own _ hm) hi
 have := hr.2 j v hj
 rw [w9 hr.1] at this ⊢
 rw [xP, Nat.add_assoc]
 exact this
theorem Cells.part {a : Addr} {vs ws : List Value} {o k : Nat} (h : Cells w0 m H a vs) (hsp : a.spot = none) (hv : Seg vs o k ws) : Cells w0 m H (a.add o) ws := by
 intro w hs j v hj
 have := h w hs _ v (hv.at_.2 j v hj)
 rw [w9 hsp] at this ⊢
 rw [xP, Nat.add_assoc]
 exact this
theorem zJu {a : Addr} (h : a.spot = none) (k : Nat) : (a.add k).spot = none := by rw [w9 h]
theorem Cells.cell {a : Addr} {v : Value} (h : Cells w0 m H a [v]) : Cell w0 m H a v := fun w hs => by
 have := h w hs 0 v rfl
 simpa [Addr.add] using this
def PRow (m : Mem) (T : TypeId) (sz : Nat) : Value → List (List Value) → Prop
 | .slice none len _, es => es = [] ∧ len = 0
 | .slice (some a) len _, es => a.spot = none ∧ len = es.length ∧ (∀ e ∈ es, e.length = sz) ∧ ∃ arr fz, m a.block = some (.cells arr T fz) ∧ ∀ j v, es.flatten[j]? = some v → arr[a.off + j]? = some v
 | _, _ => False
theorem PRow.le {m m' : Mem} {T : TypeId} {sz : Nat} {v : Value} {es : List (List Value)} (h : PRow m T sz v es) (hm : m.le m') : PRow m' T sz v es := by
 match v, h with
 | .slice none _ _, h => exact h
 | .slice (some a) _ _, ⟨h1, h2, h3, arr, fz, h4, h5⟩ => exact ⟨h1, h2, h3, arr, fz, hm _ _ h4, h5⟩
theorem PRow.len {m : Mem} {T : TypeId} {sz : Nat} {v : Value} {es : List (List Value)} (h : PRow m T sz v es) : ∃ a cap, v = .slice a es.length cap := by
 match v, h with
 | .slice none len cap, ⟨h1, h2⟩ => subst h1; subst h2; exact ⟨none, cap, rfl⟩
 | .slice (some a) len cap, ⟨_, h2, _⟩ => subst h2; exact ⟨some a, cap, rfl⟩
theorem Cells.prow {a : Addr} {len cap : Nat} {T : TypeId} {sz k i : Nat} {es : List (List Value)} {e : List Value} (hp : PRow m T sz (.slice (some a) len cap) es) (hi : es[i]? = some e) (hk : k = i * sz) :
  Cells w0 m H (a.add k) e := by
 subst hk
 obtain ⟨h1, _, h3, arr, fz, h4, h5⟩ := hp
 intro w hs j v hj
 have h6 := h5 _ v (uG h3 hi j v hj)
 rw [w9 h1, xP]
 simp [World.cell?, hs.pers _ _ h4, Nat.add_assoc, h6]
theorem Loads.one {t : TypeId} {a : Addr} {v : Value} (hu : aggB P t = some false) (hc : Cell w0 m H a v) : Loads P w0 m H t a v := by
 intro w hs
 simp only [loadVar, Sem.run_bind, zBs hu, Result.andThen_ok, Bool.false_eq_true, if_false]
 rw [run_load, hc w hs]
theorem Loads.agg {t : TypeId} {a : Addr} {vs : List Value} {k : Nat} (hu : aggB P t = some true) (hz : xI P t = some k) (hk : vs.length = k) (hc : Cells w0 m H a vs) : Loads P w0 m H t a (.agg vs.toArray) := by
 intro w hs
 have := run_loadCells_list (P := P) (w := w) a vs (fun j v hj => hc w hs j v hj)
 rw [hk] at this
 simp only [loadVar, Sem.run_bind, zBs hu, Result.andThen_ok, if_true, y8 hz, this, Sem.run_pure]
theorem Loads.blk {t : TypeId} {b o k : Nat} {L vs : List Value} {T : TypeId} {fz : Nat × Nat} (hu : aggB P t = some true) (hz : xI P t = some k) (hm : Item.blk b (.cells L.toArray T fz) ∈ H) (hv : Seg L o k vs) : Loads P w0 m H t ⟨b, o, none⟩ (.agg vs.toArray) :=
 .agg hu hz hv.at_.1 (Cells.blk hm hv)
theorem Loads.whole {t : TypeId} {b k : Nat} {L : List Value} {T : TypeId} {fz : Nat × Nat} (hu : aggB P t = some true) (hz : xI P t = some k) (hm : Item.blk b (.cells L.toArray T fz) ∈ H) (hk : L.length = k) : Loads P w0 m H t ⟨b, 0, none⟩ (.agg L.toArray) :=
 .agg hu hz hk (fun w hs j v hj => by rw [xP]; exact Cell.blk hm (by simpa using hj) w hs)
theorem Loads.row {t : TypeId} {a : Addr} {cap : Nat} {T : TypeId} {sz i kk k : Nat} {es : List (List Value)} {e : List Value} (hm : Item.row (some a) cap T sz es ∈ H) (hi : es[i]? = some e) (hkk : kk = i * sz) (hu : aggB P t = some true) (hz : xI P t = some k) (hl : e.length = k) :
  Loads P w0 m H t (a.add kk) (.agg e.toArray) := .agg hu hz hl (Cells.row hm hi hkk)
theorem Loads.row1 {t : TypeId} {a : Addr} {cap : Nat} {T : TypeId} {sz i kk : Nat} {es : List (List Value)} {v : Value} (hm : Item.row (some a) cap T sz es ∈ H) (hi : es[i]? = some [v]) (hkk : kk = i * sz) (hu : aggB P t = some false) :
  Loads P w0 m H t (a.add kk) v := .one hu (Cells.cell (Cells.row hm hi hkk))
theorem WL.load {t : TypeId} {x : Operand} {a : Addr} {v : Value} (hx : r.ev x = some (.pointer (some a))) (hl : Loads P w0 m H t a v) (hd : Nat.blt d n = true)
  (h : WL P ro n w0 ops Q l ((d, v) :: r) ds m H) : WL P ro n w0 ops Q (⟨some d, .load t x, ty, pos, after, none⟩ :: l) r ds m H :=
 .val hd (fun _ h => by cases h) (fun tmps w ho hs => by
  simp only [execOp, Instr.loadAt, Instr.sureAddr, ho.ev hx, Sem.run_bind, Sem.run_pure, Result.andThen_ok, hl w hs]) h
theorem WL.alloc {t : TypeId} {z : Value} {cs : List Value} (hz : zeroB P t = some z) (hc : z.cells = cs.toArray) (hd : Nat.blt d n = true)
  (h : ∀ b, WL P ro n w0 ops Q l ((d, .pointer (some ⟨b, 0, none⟩)) :: r) ds m (.blk b (.cells cs.toArray t (0, 0)) :: H)) :
  WL P ro n w0 ops Q (⟨some d, .alloc t, ty, pos, after, none⟩ :: l) r ds m H :=
 .gen (fun v m' H' => ∃ b, v = .pointer (some ⟨b, 0, none⟩) ∧ m' = m ∧ H' = .blk b (.cells cs.toArray t (0, 0)) :: H) hd (fun _ h => by cases h)
  (fun tmps w ho hs => ⟨_, m, _, w.alloc (.cells cs.toArray t (0, 0)), by
   simp only [execOp, Instr.alloc, Sem.run_bind, xG hz, Result.andThen_ok, newVar, newRow, hc, run_newObj_alloc, Sem.run_pure], hs.alloc _, w.heap.size, rfl, rfl, rfl⟩)
  (by rintro _ _ _ ⟨b, rfl, rfl, rfl⟩; exact h b)
theorem WL.box {t : TypeId} {x : Operand} {v : Value} {cs : List Value} (hx : r.ev x = some v) (hc : v.cells = cs.toArray) (hd : Nat.blt d n = true)
  (h : ∀ b, WL P ro n w0 ops Q l ((d, .pointer (some ⟨b, 0, none⟩)) :: r) ds m (.blk b (.cells cs.toArray t (0, 0)) :: H)) :
  WL P ro n w0 ops Q (⟨some d, .box t x, ty, pos, after, none⟩ :: l) r ds m H :=
 .gen (fun v m' H' => ∃ b, v = .pointer (some ⟨b, 0, none⟩) ∧ m' = m ∧ H' = .blk b (.cells cs.toArray t (0, 0)) :: H) hd (fun _ h => by cases h)
  (fun tmps w ho hs => ⟨_, m, _, w.alloc (.cells cs.toArray t (0, 0)), by
   simp only [execOp, Instr.box, Sem.run_bind, Result.andThen_ok, newVar, newRow, hc, ho.ev hx, run_newObj_alloc, Sem.run_pure], hs.alloc _, w.heap.size, rfl, rfl, rfl⟩)
  (by rintro _ _ _ ⟨b, rfl, rfl, rfl⟩; exact h b)
def laid : List Value → Nat → List Value → List Value
 | L, _, [] => L
 | L, o, v :: vs => laid (L.set o v) (o + 1) vs
theorem xY : ∀ (vs : List Value) (L : List Value) (o : Nat), (laid L o vs).length = L.length
 | [], _, _ => rfl
 | v :: vs, L, o => by simp [laid, xY vs]
def okCell (v : Value) : Bool := v.oneCell'
theorem qP {b : Nat} {T : TypeId} {fz : Nat × Nat} {w0 : World} {m : Mem} : ∀ (vs : List Value) (i o : Nat) (L : List Value) (H : SHeap) (w : World), o + i + vs.length ≤ L.length → (fz.1 = fz.2 ∨ fz.2 ≤ o + i ∨ L.length ≤ fz.1) → vs.all okCell = true →
  Sat w0 m (.blk b (.cells L.toArray T fz) :: H) w → ∃ w', (storeCells ⟨b, o, none⟩ vs i).run P w = .ok () w' ∧ Sat w0 m (.blk b (.cells (laid L (o + i) vs).toArray T fz) :: H) w'
 | [], i, o, L, H, w, _, _, _, hs => ⟨w, rfl, hs⟩
 | v :: vs, i, o, L, H, w, hl, hf, ha, hs => by
  simp only [List.all_cons, Bool.and_eq_true] at ha
  have hb : w.heap[b]? = some (.cells L.toArray T fz) := hs.own _ List.mem_cons_self
  have hlen : o + i < L.length := by simp at hl; omega
  have hst : (store ⟨b, o + i, none⟩ v).run P w = .ok () (w.setCell ⟨b, o + i, none⟩ v) := by
   have hc : w.cell? ⟨b, o + i, none⟩ = some L[o + i] := by simp [World.cell?, hb, List.getElem?_eq_getElem hlen]
   have hfz : w.frozen? ⟨b, o + i, none⟩ = false := by
    simp only [World.frozen?, hb]
    rcases hf with h | h | h
    ·simp; omega
    ·simp; omega
    ·simp; omega
   have ho : v.oneCell' = true := ha.1
   cases v <;> first | (simp [Value.oneCell'] at ho; done) | (simp [store, Sem.run, hc, hfz])
  have hs' : Sat w0 m (.blk b (.cells (L.set (o + i) v).toArray T fz) :: H) (w.setCell ⟨b, o + i, none⟩ v) := by
   refine hs.turn (j := .blk b (.cells (L.set (o + i) v).toArray T fz)) rfl rfl rfl (by simp) (fun k _ hk => Below.heap_setCell _ _ _ _ (by simpa [Item.foot] using hk)) ?_ (fun _ hx => .inl hx) (by simp [Item.foot])
   show (w.heap.modify b _)[b]? = _
   rw [Array.getElem?_modify, if_pos rfl, hb]
   simp
  obtain ⟨w', h1, h2⟩ := qP vs (i + 1) o (L.set (o + i) v) H _ (by simp at hl ⊢; omega) (by rcases hf with h | h | h; exact .inl h; exact .inr (.inl (by omega)); exact .inr (.inr (by simpa using h))) ha.2 hs'
  refine ⟨w', ?_, h2⟩
  simp only [storeCells, xP, Sem.run_bind, hst, Result.andThen_ok]
  exact h1
theorem Sat.at_ {i : Item} {w : World} (h : Sat w0 m H w) (hi : i ∈ H) : ∃ H1, List.Perm H (i :: H1) := by
 obtain ⟨s, t, e⟩ := List.append_of_mem hi
 subst e
 exact ⟨s ++ t, List.perm_middle⟩
theorem WL.store {t : TypeId} {x y : Operand} {b o k : Nat} {T : TypeId} {fz : Nat × Nat} {L vs L' : List Value} {v : Value} {H' : SHeap} (hx : r.ev x = some (.pointer (some ⟨b, o, none⟩))) (hy : r.ev y = some v)
  (hv : v.cells = vs.toArray) (hz : xI P t = some k) (hk : vs.length = k) (hr : Repl (.blk b (.cells L.toArray T fz)) (.blk b (.cells L'.toArray T fz)) H H') (hnf : NF (laid L o vs) L')
  (hl : Nat.ble (o + k) L.length = true) (hf : fz.1 = fz.2 ∨ fz.2 ≤ o) (ha : vs.all okCell = true) (h : WL P ro n w0 ops Q l r ds m H') :
  WL P ro n w0 ops Q (⟨none, .store t x y, ty, pos, after, none⟩ :: l) r ds m H :=
 .act (fun m' H'' => m' = m ∧ H'' = H') rfl (fun _ h => by cases h)
  (fun tmps w ho hs => by
   have hnf' := hnf.eq
   subst hnf'
   obtain ⟨H1, p1, p2⟩ := hr.perm
   obtain ⟨w', h1, h2⟩ := qP (P := P) vs 0 o L H1 w (by simp at hl; omega) (by rcases hf with h | h; exact .inl h; exact .inr (.inl (by simpa using h))) ha (hs.perm p1)
   refine ⟨m, H', w', ?_, h2.perm p2.symm, rfl, rfl⟩
   simp only [execOp, Instr.storeAt, Instr.sureAddr, storeVar, ho.ev hx, ho.ev hy, hv, Sem.run_bind, Sem.run_pure, Result.andThen_ok, y8 hz]
   simp only [List.size_toArray, hk, ne_eq, not_true_eq_false, if_false, h1, Result.andThen_ok])
  (by rintro _ _ ⟨rfl, rfl⟩; exact h)
def fieldB (P : Program) (t : TypeId) (i : Nat) : Option (Nat × TypeId) := match P.underlying t with
 | some (.struct fs) => (fs[i]?).bind fun f => match lit f.offset with
  | some o => some (o, f.type)
  | none => none
 | _ => none
theorem zFm {t : TypeId} {i o : Nat} {u : TypeId} (h : fieldB P t i = some (o, u)) : ∃ fs f, P.underlying t = some (.struct fs) ∧ fs[i]? = some f ∧ f.offset = o ∧ f.type = u := by
 unfold fieldB at h
 split at h
 ·rename_i fs hu
  cases hf : fs[i]? with
  | none => simp [hf] at h
  | some f => simp [hf, kF] at h; exact ⟨fs, f, hu, hf, h.1, h.2⟩
 ·cases h
theorem WL.fieldAddr {t u : TypeId} {x : Operand} {a : Addr} {i o k : Nat} (hx : r.ev x = some (.pointer (some a))) (hf : fieldB P t i = some (o, u)) (hz : xI P u = some (k + 1)) (hd : Nat.blt d n = true)
  (h : WL P ro n w0 ops Q l ((d, .pointer (some (a.add o))) :: r) ds m H) : WL P ro n w0 ops Q (⟨some d, .fieldAddr t x i, ty, pos, after, none⟩ :: l) r ds m H := by
 obtain ⟨fs, f, hu, hfi, ho', ht⟩ := zFm hf
 subst ho'; subst ht
 refine .val hd (fun _ h => by cases h) (fun tmps w ho _ => ?_) h
 simp only [execOp, Instr.fieldAt, Sem.run_bind, run_underlying hu, Result.andThen_ok, hfi, ho.ev hx, Instr.sureAddr, Sem.run_pure, fieldPlace, y8 hz]
 simp
theorem WL.fieldAddr0 {t u : TypeId} {x : Operand} {b p i o k : Nat} (hx : r.ev x = some (.pointer (some ⟨b, p, none⟩))) (hf : fieldB P t i = some (o, u)) (hz : xI P u = some (k + 1)) (hd : Nat.blt d n = true) {q : Nat} (hq : lit (p + o) = some q)
  (h : WL P ro n w0 ops Q l ((d, .pointer (some ⟨b, q, none⟩)) :: r) ds m H) : WL P ro n w0 ops Q (⟨some d, .fieldAddr t x i, ty, pos, after, none⟩ :: l) r ds m H :=
 .fieldAddr hx hf hz hd (by rw [kF] at hq; rw [xP, Option.some.inj hq]; exact h)
theorem WL.field1 {t u : TypeId} {x : Operand} {vs : List Value} {i o : Nat} {v : Value} (hx : r.ev x = some (.agg vs.toArray)) (hf : fieldB P t i = some (o, u)) (hu : aggB P u = some false) (hv : vs[o]? = some v) (hd : Nat.blt d n = true)
  (h : WL P ro n w0 ops Q l ((d, v) :: r) ds m H) : WL P ro n w0 ops Q (⟨some d, .field t x i, ty, pos, after, none⟩ :: l) r ds m H := by
 obtain ⟨fs, f, hu', hfi, ho', ht⟩ := zFm hf
 subst ho'; subst ht
 refine .val hd (fun _ h => by cases h) (fun tmps w ho _ => ?_) h
 simp only [execOp, Instr.field, Sem.run_bind, run_underlying hu', Result.andThen_ok, hfi, ho.ev hx, asAgg, Sem.run_pure, part, zBs hu, Bool.false_eq_true, if_false]
 simp [hv]
def overlay : List Value → List (Nat × Value) → List Value
 | L, [] => L
 | L, (o, v) :: rest => overlay (laid L o v.cells.toList) rest
theorem zCz (o : Nat) : ∀ (vs : List Value) (k : Nat) (cs : Array Value),
  ((vs.zipIdx k).foldl (fun cs (p : Value × Nat) => cs.setIfInBounds (o + p.2) p.1) cs).toList = laid cs.toList (o + k) vs
 | [], k, cs => rfl
 | v :: vs, k, cs => by
  simp only [List.zipIdx_cons, List.foldl_cons, laid]
  rw [zCz o vs (k + 1)]
  simp [Nat.add_assoc]
theorem zDj (place : Nat → Option (Nat × Nat)) : ∀ (parts : List (Nat × Value)) (placed : List (Nat × Value)) (cs : Array Value),
  parts.map (fun p => ((place p.1).map (·.1)).getD 0) = placed.map (·.1) → parts.map (·.2) = placed.map (·.2) →
  (parts.all fun p => match place p.1 with | some (o, s) => Nat.beq p.2.cells.size s && Nat.ble (o + s) cs.size | none => false) = true →
  Instr.fill place cs parts = some (overlay cs.toList placed).toArray
 | [], placed, cs, h1, h2, _ => by
  cases placed with
  | nil => simp [Instr.fill, overlay]
  | cons _ _ => simp at h1
 | (i, v) :: parts, placed, cs, h1, h2, h3 => by
  cases placed with
  | nil => simp at h1
  | cons q placed =>
   obtain ⟨o, u⟩ := q
   simp only [List.map_cons, List.cons.injEq] at h1 h2
   simp only [List.all_cons, Bool.and_eq_true] at h3
   obtain ⟨h2a, h2b⟩ := h2
   subst h2a
   cases hp : place i with
   | none => simp [hp] at h3
   | some os =>
    obtain ⟨o', s⟩ := os
    simp [hp] at h1 h3
    obtain ⟨h1a, h1b⟩ := h1
    subst h1a
    obtain ⟨⟨h3a, h3b⟩, h3c⟩ := h3
    have hf := zCz o' v.cells.toList 0 cs
    simp only [Instr.fill, hp]
    rw [if_neg (by simp [h3a]; omega)]
    have e : v.cells.zipIdx.foldl (fun cs (c, j) => cs.setIfInBounds (o' + j) c) cs = (v.cells.toList.zipIdx 0).foldl (fun cs (p : Value × Nat) => cs.setIfInBounds (o' + p.2) p.1) cs := by
     rw [← Array.foldl_toList]; simp
    rw [e]
    have hsz : ((v.cells.toList.zipIdx 0).foldl (fun cs (p : Value × Nat) => cs.setIfInBounds (o' + p.2) p.1) cs).size = cs.size := by
     rw [← Array.length_toList, hf, xY, Array.length_toList]
    have := zDj place parts placed ((v.cells.toList.zipIdx 0).foldl (fun cs (p : Value × Nat) => cs.setIfInBounds (o' + p.2) p.1) cs) h1b h2b (by
     rw [hsz]
     simpa using h3c)
    rw [this, hf]
    rfl
end
end Go.Eng
namespace Go.Eng
open Go Go.RowKit
def placesB (P : Program) (t : TypeId) : Option (List (Nat × Nat)) := match P.underlying t with
 | some (.struct fs) => fs.toList.mapM fun f => (P.info? f.type).map fun i => (f.offset, i.size)
 | _ => none
def placedB (ps : List (Nat × Nat)) : List (Nat × Value) → List (Nat × Value)
 | [] => []
 | (i, v) :: rest => (((ps[i]?).map (·.1)).getD 0, v) :: placedB ps rest
theorem zAo (ps : List (Nat × Nat)) : ∀ parts : List (Nat × Value), placedB ps parts = parts.map fun p => (((ps[p.1]?).map (·.1)).getD 0, p.2)
 | [] => rfl
 | (i, v) :: rest => by simp [placedB, zAo ps rest]
def placedA (sz : Nat) : List (Nat × Value) → List (Nat × Value)
 | [] => []
 | (i, v) :: rest => (i * sz, v) :: placedA sz rest
theorem kC (sz : Nat) : ∀ parts : List (Nat × Value), placedA sz parts = parts.map fun p => (p.1 * sz, p.2)
 | [] => rfl
 | (i, v) :: rest => by simp [placedA, kC sz rest]
def fitsB (ps : List (Nat × Nat)) (k : Nat) (parts : List (Nat × Value)) : Bool :=
 parts.all fun p => match ps[p.1]? with | some (o, s) => Nat.beq p.2.cells.size s && Nat.ble (o + s) k | none => false
def Env.evp (r : Env) : List (Nat × Operand) → Option (List (Nat × Value))
 | [] => some []
 | (i, o) :: l => match r.ev o, r.evp l with
  | some v, some vs => some ((i, v) :: vs)
  | _, _ => none
theorem Env.ok.evp {n : Nat} {r : Env} {tmps : Array Value} (h : r.ok n tmps) (ds : List Deferred) : ∀ {l : List (Nat × Operand)} {vs : List (Nat × Value)}, r.evp l = some vs → l.map (fun p => (p.1, (Act.mk tmps ds).eval p.2)) = vs
 | [], vs, he => by simpa [Env.evp] using he
 | (i, o) :: l, vs, he => by
  simp only [Env.evp] at he
  cases h1 : r.ev o with
  | none => simp [h1] at he
  | some v =>
   cases h2 : Env.evp r l with
   | none => simp [h1, h2] at he
   | some ws =>
    simp [h1, h2] at he
    subst he
    simp [h.ev h1, h.evp ds h2]
section
variable {P : Program} {ro : Option Nat} {n : Nat} {w0 : World} {Q : Exit → Act → World → Prop} {r : Env} {ds : List Dfr} {m : Mem} {H : SHeap}
 {ops : Array Oper} {l : List Oper} {d : Nat} {ty : TypeId} {pos : String} {after : Array Edge}
theorem zCK {t : TypeId} {ps : List (Nat × Nat)} (hps : placesB P t = some ps) : ∃ fs, P.underlying t = some (.struct fs) ∧ ∀ w, (fs.mapM fun f => (do pure (f.offset, ← sizeOf f.type) : Sem (Nat × Nat))).run P w = .ok ps.toArray w := by
 unfold placesB at hps
 cases hu : P.underlying t with
 | none => simp [hu] at hps
 | some q =>
  cases q with
  | struct fs =>
   simp only [hu] at hps
   refine ⟨fs, rfl, fun w => ?_⟩
   have hpl := run_places (P := P) w fs.toList ps hps
   rw [Array.mapM_eq_mapM_toList]
   have : (fs.toList.mapM fun f => (do pure (f.offset, ← sizeOf f.type) : Sem (Nat × Nat))) = fs.toList.mapM fun f => Prod.mk f.offset <$> sizeOf f.type := rfl
   rw [this]
   simp [hpl]
  | _ => simp [hu] at hps
theorem WL.build {t : TypeId} {parts : List (Nat × Operand)} {pv : List (Nat × Value)} {ps : List (Nat × Nat)} {z : Value} {k : Nat} {cs : List Value}
  (hp : r.evp parts = some pv) (hps : placesB P t = some ps) (hz : zeroB P t = some z) (hk : z.cells.size = k) (hfit : fitsB ps k pv = true) (hc : NF (overlay z.cells.toList (placedB ps pv)) cs)
  (hd : Nat.blt d n = true) (h : WL P ro n w0 ops Q l ((d, .agg cs.toArray) :: r) ds m H) : WL P ro n w0 ops Q (⟨some d, .build t parts.toArray, ty, pos, after, none⟩ :: l) r ds m H := by
 refine .val hd (fun _ h => by cases h) (fun tmps w ho _ => ?_) h
 have e1 := ho.evp (marks ds) hp
 obtain ⟨fs, hu, hpl⟩ := zCK hps
 have hc' := hc.eq
 try rw [kC] at hc'
 subst hc'
 have g1 := zDj (fun i => ps[i]?) pv (placedB ps pv) z.cells (by simp [zAo]) (by simp [zAo]) (by
  unfold fitsB at hfit
  rw [← hk] at hfit
  exact hfit)
 simp only [execOp, Instr.build, Sem.run_bind, xG hz, Result.andThen_ok, run_underlying hu, List.map_toArray, e1, hpl]
 have g1' : Instr.fill (fun x => ps.toArray[x]?) z.cells pv = some (overlay z.cells.toList (placedB ps pv)).toArray := by simpa using g1
 simp only [g1', Sem.run_pure, Result.andThen_ok]
def arrB (P : Program) (t : TypeId) : Option TypeId := match P.underlying t with
 | some (.array _ e) => some e
 | _ => none
theorem WL.buildArr {t e : TypeId} {parts : List (Nat × Operand)} {pv : List (Nat × Value)} {z : Value} {sz k : Nat} {cs : List Value}
  (hp : r.evp parts = some pv) (hu : arrB P t = some e) (hsz : xI P e = some sz) (hz : zeroB P t = some z) (hk : z.cells.size = k) (hfit : (pv.all fun p => Nat.beq p.2.cells.size sz && Nat.ble (p.1 * sz + sz) k) = true)
  (hc : NF (overlay z.cells.toList (placedA sz pv)) cs)
  (hd : Nat.blt d n = true) (h : WL P ro n w0 ops Q l ((d, .agg cs.toArray) :: r) ds m H) : WL P ro n w0 ops Q (⟨some d, .build t parts.toArray, ty, pos, after, none⟩ :: l) r ds m H := by
 refine .val hd (fun _ h => by cases h) (fun tmps w ho _ => ?_) h
 have e1 := ho.evp (marks ds) hp
 have hc' := hc.eq
 try rw [kC] at hc'
 subst hc'
 have g1 := zDj (fun i => some (i * sz, sz)) pv (pv.map fun p => (p.1 * sz, p.2)) z.cells (by simp) (by simp) (by
  rw [hk]; exact hfit)
 unfold arrB at hu
 cases hq : P.underlying t with
 | none => simp [hq] at hu
 | some q =>
  cases q with
  | array ln e' =>
   simp [hq] at hu
   subst hu
   simp only [execOp, Instr.build, Sem.run_bind, xG hz, Result.andThen_ok, run_underlying hq, List.map_toArray, e1, y8 hsz]
   rw [g1]
   simp only [Sem.run_pure, Result.andThen_ok]
  | _ => simp [hq] at hu
theorem WL.buildSlice {t e : TypeId} {k sz : Nat} {parts : List (Nat × Operand)} {pv : List (Nat × Value)} {z : Value} {cs : List Value}
  (hp : r.evp parts = some pv) (hu : P.underlying t = some (.slice e)) (hz : zeroB P e = some z) (hsz : xI P e = some sz) (hzs : z.cells.size = sz) (hpos : Nat.blt 0 (k * sz) = true) (hsmall : Nat.ble (k * sz) 16777216 = true)
  (hfit : (pv.all fun p => Nat.beq p.2.cells.size sz && Nat.ble (p.1 * sz + sz) (k * sz)) = true)
  (hc : NF (overlay (List.replicate k z.cells.toList).flatten (placedA sz pv)) cs)
  (hd : Nat.blt d n = true) (h : ∀ b, WL P ro n w0 ops Q l ((d, .slice (some ⟨b, 0, none⟩) k k) :: r) ds m (.blk b (.cells cs.toArray e (0, 0)) :: H)) :
  WL P ro n w0 ops Q (⟨some d, .buildSlice t k parts.toArray, ty, pos, after, none⟩ :: l) r ds m H := by
 have hpos' : 0 < k * sz := by simpa [Nat.blt_eq] using hpos
 have hsz0 : 0 < sz := Nat.pos_of_mul_pos_left hpos'
 have hsm : ¬ (k * sz > 2 ^ 24) := by have : k * sz ≤ 16777216 := by simpa using hsmall
                                      omega
 refine .gen (fun v m' H' => ∃ b, v = .slice (some ⟨b, 0, none⟩) k k ∧ m' = m ∧ H' = .blk b (.cells cs.toArray e (0, 0)) :: H) hd (fun _ h => by cases h) (fun tmps w ho hs => ?_)
  (by rintro _ _ _ ⟨b, rfl, rfl, rfl⟩; exact h b)
 have e1 := ho.evp (marks ds) hp
 let base : Array Value := (Array.range (k * sz)).map fun j => z.cells[j % z.cells.size]!
 have hbs : base.size = k * sz := by simp [base]
 have hbl : base.toList = (List.replicate k z.cells.toList).flatten := by
  apply List.ext_getElem?
  intro j
  have hlen : (List.replicate k z.cells.toList).flatten.length = k * sz := by
   rw [List.length_flatten]; simp [hzs]
  by_cases hj : j < k * sz
  ·have h1 : j % sz < z.cells.size := by rw [hzs]; exact Nat.mod_lt _ hsz0
   have hq : j / sz < k := Nat.div_lt_of_lt_mul (by rw [Nat.mul_comm]; exact hj)
   have h2 := uG (es := List.replicate k z.cells.toList) (sz := sz) (i := j / sz) (e := z.cells.toList) (fun x hx => by rw [(List.mem_replicate.1 hx).2]; simp [hzs]) (by simp [List.getElem?_replicate, hq]) (j % sz) z.cells[j % sz] (by simp [h1])
   rw [show j / sz * sz + j % sz = j by rw [Nat.mul_comm]; exact Nat.div_add_mod j sz] at h2
   rw [h2]
   simp [base, hj, hzs, getElem!_pos, hzs ▸ h1]
  ·rw [List.getElem?_eq_none (by simp [hbs]; omega), List.getElem?_eq_none (by omega)]
 have g1 := zDj (fun i => some (i * sz, sz)) pv (pv.map fun p => (p.1 * sz, p.2)) base (by simp) (by simp) (by
  rw [hbs]; simpa using hfit)
 have hc' := hc.eq
 try rw [kC] at hc'
 subst hc'
 rw [hbl] at g1
 refine ⟨_, m, _, w.alloc (.cells (overlay (List.replicate k z.cells.toList).flatten (pv.map fun p => (p.1 * sz, p.2))).toArray e (0, 0)), ?_, hs.alloc _, w.heap.size, rfl, rfl, rfl⟩
 simp only [execOp, Instr.buildSlice, Sem.run_bind, run_underlying hu, Result.andThen_ok, y8 hsz, hsm, if_false, Sem.run_pure, if_neg (Nat.ne_of_gt hpos'), xG hz, List.map_toArray, e1]
 rw [show Instr.fill (fun i => some (i * sz, sz)) (Array.map (fun x => z.cells[x % z.cells.size]!) (Array.range (k * sz))) pv = _ from g1]
 simp only [newRow, Sem.run_bind, run_newObj_alloc, Result.andThen_ok, Sem.run_pure]
theorem WL.lenSl {t e : TypeId} {x : Operand} {a : Option Addr} {k cap : Nat} (hx : r.ev x = some (.slice a k cap)) (hu : P.underlying t = some (.slice e)) (hd : Nat.blt d n = true)
  (h : WL P ro n w0 ops Q l ((d, .int .i64 (k : Int)) :: r) ds m H) : WL P ro n w0 ops Q (⟨some d, .call ⟨.builtin .len, #[x], #[t]⟩, ty, pos, after, none⟩ :: l) r ds m H :=
 .val hd (fun _ h => by cases h) (fun tmps w ho _ => by
  simp only [execOp, resolve, invoke, builtin, Builtin.len_, Sem.run_bind, Sem.run_pure, Result.andThen_ok, List.map_toArray, List.map_cons, List.map_nil, ho.ev hx]
  show (Sem.run P ((underlying t).bind _) w).andThen _ = _
  rw [Sem.run_bind', run_underlying hu, Result.andThen_ok]
  rfl) h
theorem WL.indexAddr {t e : TypeId} {x y : Operand} {a : Addr} {k cap sz i : Nat} {ki : IntKind} {z : Int} (hx : r.ev x = some (.slice (some a) k cap)) (hy : r.ev y = some (.int ki z)) (hz : z = (i : Int)) (hu : P.underlying t = some (.slice e)) (hsz : xI P e = some sz)
  (hi : i < k) (hd : Nat.blt d n = true) (h : WL P ro n w0 ops Q l ((d, .pointer (some (a.add (i * sz)))) :: r) ds m H) :
  WL P ro n w0 ops Q (⟨some d, .indexAddr t x y, ty, pos, after, none⟩ :: l) r ds m H :=
 .val hd (fun _ h => by cases h) (fun tmps w ho _ => by
  subst hz
  have h1 : (0 : Int) ≤ (i : Int) ∧ (i : Int) < (k : Int) := by omega
  simp only [execOp, Instr.indexAt, asIntOf, ho.ev hx, ho.ev hy, Sem.run_bind, Sem.run_pure, Result.andThen_ok, run_underlying hu]
  simp [h1, y8 hsz]) h
theorem zA1 {w : World} {a : Option Addr} {cap : Nat} {T : TypeId} {sz : Nat} {es : List (List Value)} (hs : Sat w0 m H w) (hm : Item.row a cap T sz es ∈ H) (hne : 0 < es.length) : ∃ a0, a = some a0 := by
 cases a with
 | some a0 => exact ⟨a0, rfl⟩
 | none =>
  have := hs.own _ hm
  have h1 : es = [] := this.1
  subst h1; simp at hne
theorem WL.rowSome {a : Option Addr} {cap : Nat} {T : TypeId} {sz : Nat} {es : List (List Value)} (hm : Item.row a cap T sz es ∈ H) (hne : 0 < es.length) (h : ∀ a0, a = some a0 → WL P ro n w0 ops Q l r ds m H) : WL P ro n w0 ops Q l r ds m H := by
 intro tmps w ho hs
 obtain ⟨a0, e⟩ := zA1 hs hm hne
 exact h a0 e tmps w ho hs
theorem WC.rowSome {c : Code} {a : Option Addr} {cap : Nat} {T : TypeId} {sz : Nat} {es : List (List Value)} (hm : Item.row a cap T sz es ∈ H) (hne : 0 < es.length) (h : ∀ a0, a = some a0 → WC P ro n w0 c Q r ds m H) : WC P ro n w0 c Q r ds m H := by
 intro tmps w ho hs
 obtain ⟨a0, e⟩ := zA1 hs hm hne
 exact h a0 e tmps w ho hs
theorem zX : ∀ {es : List (List Value)} {sz : Nat}, (∀ e ∈ es, e.length = sz) → es.flatten.length = es.length * sz
 | [], sz, _ => by simp
 | e :: es, sz, h => by
  rw [List.flatten_cons, List.length_append, h e List.mem_cons_self, zX (fun q hq => h q (List.mem_cons_of_mem _ hq)), List.length_cons, Nat.succ_mul]
  omega
def Source (P : Program) (w0 : World) (m : Mem) (H : SHeap) (sz : Nat) (tx : TypeId) (x : Value) (k : Nat) (news : List Value) : Prop := ∀ w, Sat w0 m H w → Src P sz tx x k news w
theorem Source.str {tx : TypeId} (hk : P.underlying tx = some .string) (s : List UInt8) : Source P w0 m H 1 tx (str s) s.length (s.map fun b => Value.int .u8 (b.toNat : Int)) := fun w _ => by
 have := Src.ofString (P := P) w hk ⟨s.toArray⟩
 simpa [byteCells, ByteArray.size] using this
theorem Source.nil {sz : Nat} {tx e' : TypeId} (hk : P.underlying tx = some (.slice e')) (c : Nat) : Source P w0 m H sz tx (.slice none 0 c) 0 [] := fun w _ => Src.ofNil w hk c
theorem Source.cells {sz k c : Nat} {tx e' : TypeId} {a : Addr} {news : List Value} (hk : P.underlying tx = some (.slice e')) (hc : Cells w0 m H a news) (hl : news.length = k * sz) (h1 : news.all okCell = true) : Source P w0 m H sz tx (.slice (some a) k c) k news :=
 fun w hs => Src.ofSlice w hk a k c news hl (fun j u hu => hc w hs j u hu) (fun u hu => List.all_eq_true.1 h1 u hu)
theorem Source.prow {sz : Nat} {tx e' : TypeId} {T : TypeId} {v : Value} {es : List (List Value)} (hk : P.underlying tx = some (.slice e')) (hp : PRow m T sz v es) (h1 : ∀ e ∈ es, e.all okCell = true) : Source P w0 m H sz tx v es.length es.flatten := by
 have hlen : (∀ e ∈ es, e.length = sz) → es.flatten.length = es.length * sz := fun h => zX h
 match v, hp with
 | .slice none len cap, ⟨h2, h3⟩ => subst h2; subst h3; exact .nil hk cap
 | .slice (some a) len cap, ⟨hsp, h2, h3, arr, fz, h4, h5⟩ =>
  subst h2
  refine fun w hs => Src.ofSlice w hk a _ cap _ (hlen h3) (fun j u hu => ?_) (fun u hu => ?_)
  ·rw [w9 hsp]
   simp [World.cell?, hs.pers _ _ h4, h5 j u hu]
  ·obtain ⟨e, he, hu'⟩ := List.mem_flatten.1 hu
   exact List.all_eq_true.1 (h1 e he) u hu'
theorem zBE : ∀ (vs : List Value) (L : List Value) (o : Nat), o + vs.length ≤ L.length → (laid L o vs).take (o + vs.length) = L.take o ++ vs
 | [], L, o, _ => by simp [laid]
 | v :: vs, L, o, h => by
  simp only [laid, List.length_cons] at h ⊢
  rw [show o + (vs.length + 1) = (o + 1) + vs.length by omega, zBE vs (L.set o v) (o + 1) (by simp; omega)]
  rw [List.take_succ_eq_append_getElem (by simp; omega)]
  simp [List.take_set_of_le]
theorem zHx {need old t : Nat} {e : TypeId} (h : need ≤ 9223372036854775807) : (Question.appendCap need old e).cut t ≤ 9223372036854775807 := by
 have h1 : t % (2 ^ 63 - need) < 2 ^ 63 - need := Nat.mod_lt _ (by omega)
 simp only [Question.cut]
 omega
theorem kO {need : Nat} (w : World) (h : need ≤ 9223372036854775807) (old : Nat) (e : TypeId) : grownCap w need old e ≤ 9223372036854775807 := zHx h
theorem zBW {t tx e : TypeId} {sz by' : Nat} {z : Value} {a : Option Addr} {cap : Nat} {es es' : List (List Value)} {x : Value} {w : World} (hu : P.underlying t = some (.slice e)) (hz : zeroB P e = some z) (hsz : xI P e = some sz) (hby : bytesB P e = some by')
  (hzs : z.cells.size = sz) (hs : Sat w0 m (.row a cap e sz es :: H) w) (hx : Src P sz tx x es'.length es'.flatten w) (hes : ∀ q ∈ es', q.length = sz) (h63 : es.length + es'.length ≤ 9223372036854775807) (hb : (es.length + es'.length) * by' ≤ 140737488355328) :
  ∃ a' cap' w', (Builtin.append_ #[t, tx] ty #[.slice a es.length cap, x]).run P w = .ok (.slice a' (es ++ es').length cap') w' ∧ Sat w0 m (.row a' cap' e sz (es ++ es') :: H) w' := by
 obtain ⟨i, hi, hib, _⟩ := zAU hby w
 have his : i.size = sz := by
  unfold xI at hsz; rw [hi] at hsz; simpa [kF] using hsz
 have hiz : i.zero = some z := by
  unfold zeroB at hz; rw [hi] at hz; simpa using hz
 have hold : Item.holds w (.row a cap e sz es) := hs.own _ List.mem_cons_self
 by_cases hroom : es.length + es'.length ≤ cap
 ·-- there is room
  cases a with
  | none =>
   have h1 : es = [] ∧ cap = 0 := hold
   obtain ⟨h1, h2⟩ := h1
   subst h1; subst h2
   have h3 : es' = [] := List.eq_nil_of_length_eq_zero (by simpa using hroom)
   subst h3
   refine ⟨none, 0, w, ?_, by simpa using hs⟩
   rcases hx.kind with ⟨e', hk⟩ | hk <;> simp [Builtin.append_, run_underlying hu, run_underlying hk, sizeOf, typeInfo, hi, hx.len, his]
   all_goals
    have := hx.cells
    simp at this
    simp [this]
  | some a =>
   obtain ⟨arr, fz, g1, g2, g3, g4, g5, g6, g7⟩ := hold
   have hal : a = ⟨a.block, 0, none⟩ := g1
   generalize hbk : a.block = b at *
   subst g1
   have hlen1 := zX g6
   have hlen2 := zX hes
   have hfitA : es.length * sz + es'.flatten.length ≤ arr.toList.length := by
    have hL : arr.toList.length = cap * sz := by simp [g3]
    rw [hlen2, ← Nat.add_mul, hL]; exact Nat.mul_le_mul_right _ hroom
   have hb1 : Sat w0 m (.blk b (.cells arr.toList.toArray e fz) :: H) w := by
    refine hs.turn (j := .blk b (.cells arr.toList.toArray e fz)) rfl rfl rfl (Nat.le_refl _) (fun _ _ _ => rfl) (by simpa [Item.holds] using g2) (fun y hy => .inl (by simpa [Item.foot] using hy)) (by simp [Item.foot])
   obtain ⟨w', k1, k2⟩ := qP (P := P) es'.flatten 0 (es.length * sz) arr.toList H w (by simpa using hfitA) (by rcases g7.1 with h | h; exact .inl h; exact .inr (.inr (by simpa using h))) (List.all_eq_true.2 fun u hu => hx.one u hu) hb1
   refine ⟨some ⟨b, 0, none⟩, cap, w', ?_, ?_⟩
   ·rcases hx.kind with ⟨e', hk⟩ | hk <;>
     simp [Builtin.append_, run_underlying hu, run_underlying hk, sizeOf, typeInfo, hi, hx.len, his, hroom, hx.cells, Addr.add_lit, k1]
   ·have hw' : w'.heap[b]? = some (.cells (laid arr.toList (es.length * sz + 0) es'.flatten).toArray e fz) := k2.own _ List.mem_cons_self
    refine k2.turn (j := .row (some ⟨b, 0, none⟩) cap e sz (es ++ es')) rfl rfl rfl (Nat.le_refl _) (fun _ _ _ => rfl) ?_ (fun y hy => .inl (by simpa [Item.foot] using hy)) (by simp [Item.foot])
    refine ⟨_, fz, rfl, hw', ?_, by simpa using hroom, ?_, ?_, ?_⟩
    ·simp [xY, g3]
    ·simp only [Nat.add_zero, List.length_append, List.flatten_append]
     rw [Nat.add_mul, ← hlen2, zBE _ _ _ hfitA, g5]
    ·intro q hq
     rcases List.mem_append.1 hq with h | h
     ·exact g6 q h
     ·exact hes q h
    ·exact ⟨by simpa [xY] using g7.1, fun hq => g7.2 (by simp only [List.length_append] at hq; omega)⟩
 ·-- a new row
  have hfit := growslice_fits (bytes := i.bytes) (show cap < es.length + es'.length by omega) (by rw [hib]; exact hb)
  have holds : (∀ q ∈ es, q.length = sz) ∧ ∀ w1 : World, w1.heap = w.heap → (Builtin.firstCells i.size es.length (.slice a es.length cap)).run P w1 = .ok es.flatten.toArray w1 := by
   cases a with
   | none =>
    have h1 : es = [] ∧ cap = 0 := hold
    obtain ⟨h1, h2⟩ := h1
    subst h1
    exact ⟨(fun q hq => by cases hq), (fun w1 _ => by simp [Builtin.firstCells])⟩
   | some a =>
    have hold' := hold
    obtain ⟨arr, fz, g1, g2, g3, g4, g5, g6, _⟩ := hold
    refine ⟨g6, fun w1 hw1 => ?_⟩
    refine run_firstCells_some w1 i.size es.length a es.length cap es.flatten (by rw [his]; exact zX g6) (fun j u hu => ?_)
    have hsp : a.spot = none := by rw [g1]
    have hoff : a.off = 0 := by rw [g1]
    rw [← g5, List.getElem?_take] at hu
    split at hu
    ·rw [w9 hsp, hoff]
     simp only [World.cell?, hw1, g2]
     simpa using hu
    ·cases hu
  have hr := run_append_grow_src (P := P) w t tx ty e i z hu hi hiz a es.length cap es.flatten (holds.2 _ rfl) x es'.length es'.flatten (by rw [his]; exact hx) (by omega) (by omega) hfit
  refine ⟨_, _, _, by rw [List.length_append]; exact hr, ?_⟩
  have hge := grownCap_ge w (es.length + es'.length) cap e
  have hs2 : Sat w0 m H w.drew := hs.drop.drew
  have hs3 := hs2.alloc (.cells ((es.flatten ++ es'.flatten).toArray ++ Builtin.zeroCells z.cells (grownCap w (es.length + es'.length) cap e - (es.length + es'.length))) e (0, 0))
  refine hs3.turn (j := .row (some ⟨w.heap.size, 0, none⟩) (grownCap w (es.length + es'.length) cap e) e sz (es ++ es')) rfl rfl rfl (Nat.le_refl _) (fun _ _ _ => rfl) ?_ (fun y hy => .inl (by simpa [Item.foot] using hy)) (by simp [Item.foot])
  have hl1 := zX holds.1
  have hl2 := zX hes
  refine ⟨_, (0, 0), rfl, World.alloc_heap_new _ _, ?_, by simpa using hge, ?_, ?_, .inl rfl, fun _ => kO w h63 cap e⟩
  ·simp only [Array.size_append, List.size_toArray, List.length_append, size_zeroCells, hzs, hl1, hl2, ← Nat.add_mul]
   congr 1; omega
  ·simp only [Array.toList_append, List.flatten_append, List.length_append]
   rw [show (es.length + es'.length) * sz = (es.flatten ++ es'.flatten).length by rw [List.length_append, hl1, hl2, Nat.add_mul]]
   exact List.take_left
  ·intro q hq
   rcases List.mem_append.1 hq with h | h
   ·exact holds.1 q h
   ·exact hes q h
theorem WL.append {t tx e : TypeId} {x y : Operand} {sz by' k : Nat} {z v : Value} {a : Option Addr} {cap len : Nat} {es es' : List (List Value)} {news : List Value} {H1 : SHeap} (hx : r.ev x = some (.slice a len cap)) (hy : r.ev y = some v) (hlen : len = es.length)
  (ho : Out (.row a cap e sz es) H H1) (hu : P.underlying t = some (.slice e)) (hz : zeroB P e = some z) (hsz : xI P e = some sz) (hby : bytesB P e = some by') (hzs : z.cells.size = sz)
  (hsrc : Source P w0 m H sz tx v k news) (hk : k = es'.length) (hn : news = es'.flatten) (hes : ∀ q ∈ es', q.length = sz) (h63 : es.length + es'.length ≤ 9223372036854775807) (hb : (es.length + es'.length) * by' ≤ 140737488355328) (hd : Nat.blt d n = true)
  (h : ∀ a' cap', WL P ro n w0 ops Q l ((d, .slice a' (es ++ es').length cap') :: r) ds m (.row a' cap' e sz (es ++ es') :: H1)) :
  WL P ro n w0 ops Q (⟨some d, .call ⟨.builtin .append, #[x, y], #[t, tx]⟩, ty, pos, after, none⟩ :: l) r ds m H := by
 subst hk; subst hn; subst hlen
 refine .gen (fun v m' H' => ∃ a' cap', v = .slice a' (es ++ es').length cap' ∧ m' = m ∧ H' = .row a' cap' e sz (es ++ es') :: H1) hd (fun _ h => by cases h) (fun tmps w hok hs => ?_)
  (by rintro _ _ _ ⟨a', cap', rfl, rfl, rfl⟩; exact h a' cap')
 obtain ⟨a', cap', w', h1, h2⟩ := zBW (ty := ty) hu hz hsz hby hzs (hs.perm ho.perm) (hsrc w hs) hes h63 hb
 refine ⟨_, m, _, w', ?_, h2, a', cap', rfl, rfl, rfl⟩
 simp only [execOp, resolve, invoke, builtin, Sem.run_bind, Sem.run_pure, Result.andThen_ok, List.map_toArray, List.map_cons, List.map_nil, hok.ev hx, hok.ev hy, h1]
theorem WL.newRow {T : TypeId} {sz : Nat} (h : WL P ro n w0 ops Q l r ds m (.row none 0 T sz [] :: H)) : WL P ro n w0 ops Q l r ds m H :=
 fun tmps w ho hs => h tmps w ho ⟨hs.os, hs.tape, hs.output, hs.size, hs.pers, fun i hi => by
  cases hi with
  | head => exact ⟨rfl, rfl⟩
  | tail _ hi => exact hs.own i hi, by simpa [SHeap.foot, Item.foot] using hs.sep, by simpa [SHeap.foot, Item.foot] using hs.free⟩
theorem WC.newRow {c : Code} {T : TypeId} {sz : Nat} (h : WC P ro n w0 c Q r ds m (.row none 0 T sz [] :: H)) : WC P ro n w0 c Q r ds m H :=
 fun tmps w ho hs => h tmps w ho ⟨hs.os, hs.tape, hs.output, hs.size, hs.pers, fun i hi => by
  cases hi with
  | head => exact ⟨rfl, rfl⟩
  | tail _ hi => exact hs.own i hi, by simpa [SHeap.foot, Item.foot] using hs.sep, by simpa [SHeap.foot, Item.foot] using hs.free⟩
theorem zFl : ∀ (s acc : List UInt8), (s.map fun b => (b.toNat : Int)).foldl (fun (q : ByteArray) (n : Int) => q.push (UInt8.ofNat n.toNat)) ⟨acc.toArray⟩ = ⟨(acc ++ s).toArray⟩
 | [], acc => by simp
 | b :: s, acc => by
  simp only [List.map_cons, List.foldl_cons]
  have : (⟨acc.toArray⟩ : ByteArray).push (UInt8.ofNat (Int.toNat (b.toNat : Int))) = ⟨(acc ++ [b]).toArray⟩ := by
   apply ByteArray.ext
   simp [ByteArray.push]
  rw [this, zFl s (acc ++ [b])]
  simp
theorem WL.bytesStr {src dst e : TypeId} {x : Operand} {v : Value} {s : List UInt8} (hx : r.ev x = some v) (hs1 : P.underlying src = some (.slice e)) (hs2 : P.underlying dst = some .string) (hs3 : P.underlying e = some (.int .u8)) (hsz : xI P e = some 1)
  (hsrc : (v = .slice none 0 0 ∧ s = []) ∨ ∃ a cap, v = .slice (some a) s.length cap ∧ Cells w0 m H a (s.map fun b => Value.int .u8 (b.toNat : Int))) (hd : Nat.blt d n = true)
  (h : WL P ro n w0 ops Q l ((d, str s) :: r) ds m H) : WL P ro n w0 ops Q (⟨some d, .convert src dst x, ty, pos, after, none⟩ :: l) r ds m H :=
 .val hd (fun _ h => by cases h) (fun tmps w ho hs => by
  have e1 := hsz
  rcases hsrc with ⟨rfl, rfl⟩ | ⟨a, cap, rfl, hc⟩
  ·simp [execOp, ho.ev hx, convert, run_underlying hs1, run_underlying hs2, run_underlying hs3, Conv.bytesToString]
   rfl
  ·have hl := run_loadCells_list (P := P) (w := w) a (s.map fun b => Value.int .u8 (b.toNat : Int)) (fun j v hj => hc w hs j v hj)
   have hl' : (loadCells a s.length).run P w = .ok ((s.map fun b => (b.toNat : Int)).map (Value.int .u8)).toArray w := by
    simpa [List.map_map, Function.comp_def] using hl
   have hb := run_bytesToString (P := P) w a s.length cap _ hl'
   have hp := zFl s []
   simp only [List.nil_append] at hp
   rw [show (ByteArray.empty : ByteArray) = ⟨([] : List UInt8).toArray⟩ from rfl, hp] at hb
   simp only [execOp, ho.ev hx, convert, Sem.run_bind, run_underlying hs1, run_underlying hs2, run_underlying hs3, Result.andThen_ok, hb, Sem.run_pure]) h
theorem zBy {a : Addr} {cap : Nat} {T : TypeId} {s : List UInt8} (hm : Item.row (some a) cap T 1 (s.map fun b => [Value.int .u8 (b.toNat : Int)]) ∈ H) : Cells w0 m H a (s.map fun b => Value.int .u8 (b.toNat : Int)) := by
 intro w hs j v hj
 have hj' : (s.map fun b => [Value.int .u8 (b.toNat : Int)])[j]? = some [v] := by
  simp only [List.getElem?_map, Option.map_eq_some_iff] at hj ⊢
  obtain ⟨b, hb, rfl⟩ := hj
  exact ⟨b, hb, rfl⟩
 have := (zJV (hs.own _ hm) hj').2 0 v rfl
 simpa using this
theorem WL.rowStr {src dst e : TypeId} {x : Operand} {a : Option Addr} {len cap : Nat} {s : List UInt8} (hx : r.ev x = some (.slice a len cap)) (hlen : len = s.length) (hm : Item.row a cap e 1 (s.map fun b => [Value.int .u8 (b.toNat : Int)]) ∈ H)
  (hs1 : P.underlying src = some (.slice e)) (hs2 : P.underlying dst = some .string) (hs3 : P.underlying e = some (.int .u8)) (hsz : xI P e = some 1) (hd : Nat.blt d n = true)
  (h : WL P ro n w0 ops Q l ((d, str s) :: r) ds m H) : WL P ro n w0 ops Q (⟨some d, .convert src dst x, ty, pos, after, none⟩ :: l) r ds m H := by
 subst hlen
 intro tmps w ho hs
 cases a with
 | none =>
  have h1 : (s.map fun b => [Value.int .u8 (b.toNat : Int)]) = [] ∧ cap = 0 := hs.own _ hm
  obtain ⟨h1, h2⟩ := h1
  have h3 : s = [] := by simpa using h1
  subst h3; subst h2
  exact WL.bytesStr hx hs1 hs2 hs3 hsz (.inl ⟨rfl, rfl⟩) hd h tmps w ho hs
 | some a => exact WL.bytesStr hx hs1 hs2 hs3 hsz (.inr ⟨a, cap, rfl, zBy hm⟩) hd h tmps w ho hs
theorem vW {fn : Func} {t : Tmp} {v : Value} (hf : fn.results = #[.tmp t]) (hv : r.get t = some v) : ∀ tmps w, r.ok n tmps → Sat w0 m H w → (results fn tmps).run P w = .ok v w := by
 intro tmps w ho _
 rw [results_tmp hf, Array.getD_eq_getD_getElem?, ho.at_ _ _ hv]; rfl
theorem uE {fn : Func} (hf : fn.results = #[]) : ∀ tmps w, r.ok n tmps → Sat w0 m H w → (results fn tmps).run P w = .ok (.tuple #[]) w := by
 intro tmps w _ _
 rw [results_none hf]
inductive ResAll (P : Program) (w0 : World) (m : Mem) (H : SHeap) (r : Env) : List ResultVar → List Value → Prop
 | nil : ResAll P w0 m H r [] []
 | tmp {t : Tmp} {v : Value} {rs : List ResultVar} {vs : List Value} : r.get t = some v → ResAll P w0 m H r rs vs → ResAll P w0 m H r (.tmp t :: rs) (v :: vs)
 | cell {t : Tmp} {u : TypeId} {a : Addr} {v : Value} {rs : List ResultVar} {vs : List Value} : r.get t = some (.pointer (some a)) → Loads P w0 m H u a v → ResAll P w0 m H r rs vs → ResAll P w0 m H r (.cell t u :: rs) (v :: vs)
def resOne (tmps : Array Value) : ResultVar → Sem Value
 | .tmp t => pure (tmps.getD t undef)
 | .cell a t => do loadVar t (← asAddr (tmps.getD a undef))
theorem zGY (fn : Func) (tmps : Array Value) : results fn tmps = (do let vs ← fn.results.mapM (resOne tmps); pure (if h : vs.size = 1 then vs[0] else .tuple vs)) := rfl
theorem ResAll.run {rs : List ResultVar} {vs : List Value} (h : ResAll P w0 m H r rs vs) : ∀ tmps w, r.ok n tmps → Sat w0 m H w → (rs.mapM (resOne tmps)).run P w = .ok vs w := by
 induction h with
 | nil => intro tmps w _ _; simp
 | tmp h1 _ ih =>
  intro tmps w ho hs
  simp only [List.mapM_cons, Sem.run_bind, resOne, Sem.run_pure, Result.andThen_ok, ih tmps w ho hs]
  rw [Array.getD_eq_getD_getElem?, ho.at_ _ _ h1]; rfl
 | cell h1 h2 _ ih =>
  intro tmps w ho hs
  have e : ∀ a t, tmps.getD t undef = .pointer (some a) → (asAddr (tmps.getD t undef)).run P w = .ok a w := fun a t h => by rw [h]; simp [asAddr]
  have e2 := e _ _ (by rw [Array.getD_eq_getD_getElem?, ho.at_ _ _ h1]; rfl)
  simp only [List.mapM_cons, Sem.run_bind, resOne, Sem.run_pure, Result.andThen_ok, e2, h2 w hs, ih tmps w ho hs]
theorem ResAll.all {fn : Func} {rs : List ResultVar} {vs : List Value} (hf : fn.results = rs.toArray) (h : ResAll P w0 m H r rs vs) : ∀ tmps w, r.ok n tmps → Sat w0 m H w →
  (results fn tmps).run P w = .ok (if h : vs.toArray.size = 1 then vs.toArray[0] else .tuple vs.toArray) w := by
 intro tmps w ho hs
 have h1 := h.run tmps w ho hs
 rw [zGY, hf, Array.mapM_eq_mapM_toList]
 generalize resOne tmps = f at *
 simp [h1]
theorem v8 {fn : Func} {rs : List ResultVar} {vs : List Value} (hf : fn.results = rs.toArray) (h : ResAll P w0 m H r rs vs) (hne : Nat.beq vs.length 1 = false) : ∀ tmps w, r.ok n tmps → Sat w0 m H w → (results fn tmps).run P w = .ok (.tuple vs.toArray) w := by
 intro tmps w ho hs
 have h2 : ¬ vs.toArray.size = 1 := fun e => by rw [show vs.length = 1 from by simpa using e] at hne; cases hne
 rw [h.all hf tmps w ho hs, dif_neg h2]
theorem uD {fn : Func} {t : Tmp} {u : TypeId} {a : Addr} {v : Value} (hf : fn.results = #[.cell t u]) (h1 : r.get t = some (.pointer (some a))) (h2 : Loads P w0 m H u a v) : ∀ tmps w, r.ok n tmps → Sat w0 m H w → (results fn tmps).run P w = .ok v w := by
 intro tmps w ho hs
 rw [(ResAll.cell h1 h2 .nil).all (fn := fn) hf tmps w ho hs]
 rfl
end
end Go.Eng
namespace Go.Eng
open Go Go.RowKit
section
variable {P : Program} {ro : Option Nat} {n : Nat} {w0 : World} {Q : Exit → Act → World → Prop} {r : Env} {ds : List Dfr} {m : Mem} {H : SHeap}
 {ops : Array Oper} {l : List Oper} {c : Operand} {x y : Code} {p : Prop} {dp : Decidable p} {b : Bool}
theorem WC.yes (hc : r.ev c = some (.bool (dcd p))) (hp : p) (h : WC P ro n w0 x Q r ds m H) : WC P ro n w0 (.cond c x y) Q r ds m H := .cond_t (by rw [hc, zE hp]) h
theorem WC.no (hc : r.ev c = some (.bool (dcd p))) (hp : ¬ p) (h : WC P ro n w0 y Q r ds m H) : WC P ro n w0 (.cond c x y) Q r ds m H := .cond_f (by rw [hc, zH hp]) h
theorem WC.nyes (hc : r.ev c = some (.bool (!dcd p))) (hp : ¬ p) (h : WC P ro n w0 x Q r ds m H) : WC P ro n w0 (.cond c x y) Q r ds m H := .cond_t (by rw [hc, zH hp]; rfl) h
theorem WC.nno (hc : r.ev c = some (.bool (!dcd p))) (hp : p) (h : WC P ro n w0 y Q r ds m H) : WC P ro n w0 (.cond c x y) Q r ds m H := .cond_f (by rw [hc, zE hp]; rfl) h
theorem WC.is_t (hc : r.ev c = some (.bool b)) (hb : b = true) (h : WC P ro n w0 x Q r ds m H) : WC P ro n w0 (.cond c x y) Q r ds m H := .cond_t (by rw [hc, hb]) h
theorem WC.is_f (hc : r.ev c = some (.bool b)) (hb : b = false) (h : WC P ro n w0 y Q r ds m H) : WC P ro n w0 (.cond c x y) Q r ds m H := .cond_f (by rw [hc, hb]) h
theorem WC.ways (hc : r.ev c = some (.bool (dcd p))) (ht : p → WC P ro n w0 x Q r ds m H) (hf : ¬ p → WC P ro n w0 y Q r ds m H) : WC P ro n w0 (.cond c x y) Q r ds m H := by
 by_cases hp : p
 ·exact .yes hc hp (ht hp)
 ·exact .no hc hp (hf hp)
theorem wG (ht : p → WC P ro n w0 x Q r ds m H) (hf : ¬ p → WC P ro n w0 y Q r ds m H) (hc : r.ev c = some (.bool (dcd p)) := by exact rfl) : WC P ro n w0 (.cond c x y) Q r ds m H := WC.ways hc ht hf
theorem WC.nways (hc : r.ev c = some (.bool (!dcd p))) (ht : ¬ p → WC P ro n w0 x Q r ds m H) (hf : p → WC P ro n w0 y Q r ds m H) : WC P ro n w0 (.cond c x y) Q r ds m H := by
 by_cases hp : p
 ·exact .nno hc hp (hf hp)
 ·exact .nyes hc hp (ht hp)
theorem xF (ht : ¬ p → WC P ro n w0 x Q r ds m H) (hf : p → WC P ro n w0 y Q r ds m H) (hc : r.ev c = some (.bool (!dcd p)) := by exact rfl) : WC P ro n w0 (.cond c x y) Q r ds m H := WC.nways hc ht hf
theorem WL.gways {dst : Option Tmp} {op : Op} {ty : TypeId} {pos : String} {after : Array Edge} {j dj : Nat} {want : Bool} (hj : (ops[j]?).bind (·.dst) = some dj) (hd : r.get dj = some (.bool (dcd p)))
  (ht : p → WL P ro n w0 ops Q (⟨dst, op, ty, pos, after, some (j, want)⟩ :: l) ((dj, .bool true) :: r) ds m H)
  (hf : ¬ p → WL P ro n w0 ops Q (⟨dst, op, ty, pos, after, some (j, want)⟩ :: l) ((dj, .bool false) :: r) ds m H) : WL P ro n w0 ops Q (⟨dst, op, ty, pos, after, some (j, want)⟩ :: l) r ds m H := by
 have _ := hj
 by_cases hp : p
 ·exact .known dj true hd (zE hp) (ht hp)
 ·exact .known dj false hd (zH hp) (hf hp)
theorem xA {dst : Option Tmp} {op : Op} {ty : TypeId} {pos : String} {after : Array Edge} {j dj : Nat} {want : Bool} (ht : p → WL P ro n w0 ops Q (⟨dst, op, ty, pos, after, some (j, want)⟩ :: l) ((dj, .bool true) :: r) ds m H) (hf : ¬ p → WL P ro n w0 ops Q (⟨dst, op, ty, pos, after, some (j, want)⟩ :: l) ((dj, .bool false) :: r) ds m H) (hj : (ops[j]?).bind (·.dst) = some dj := by exact rfl) (hd : r.get dj = some (.bool (dcd p)) := by exact rfl) : WL P ro n w0 ops Q (⟨dst, op, ty, pos, after, some (j, want)⟩ :: l) r ds m H := WL.gways hj hd ht hf
theorem WL.gnways {dst : Option Tmp} {op : Op} {ty : TypeId} {pos : String} {after : Array Edge} {j dj : Nat} {want : Bool} (hj : (ops[j]?).bind (·.dst) = some dj) (hd : r.get dj = some (.bool (!dcd p)))
  (ht : ¬ p → WL P ro n w0 ops Q (⟨dst, op, ty, pos, after, some (j, want)⟩ :: l) ((dj, .bool true) :: r) ds m H)
  (hf : p → WL P ro n w0 ops Q (⟨dst, op, ty, pos, after, some (j, want)⟩ :: l) ((dj, .bool false) :: r) ds m H) : WL P ro n w0 ops Q (⟨dst, op, ty, pos, after, some (j, want)⟩ :: l) r ds m H := by
 have _ := hj
 by_cases hp : p
 ·exact .known dj false hd (by simp [y6, hp]) (hf hp)
 ·exact .known dj true hd (by simp [y6, hp]) (ht hp)
theorem yK {dst : Option Tmp} {op : Op} {ty : TypeId} {pos : String} {after : Array Edge} {j dj : Nat} {want : Bool} (ht : ¬ p → WL P ro n w0 ops Q (⟨dst, op, ty, pos, after, some (j, want)⟩ :: l) ((dj, .bool true) :: r) ds m H) (hf : p → WL P ro n w0 ops Q (⟨dst, op, ty, pos, after, some (j, want)⟩ :: l) ((dj, .bool false) :: r) ds m H) (hj : (ops[j]?).bind (·.dst) = some dj := by exact rfl) (hd : r.get dj = some (.bool (!dcd p)) := by exact rfl) : WL P ro n w0 ops Q (⟨dst, op, ty, pos, after, some (j, want)⟩ :: l) r ds m H := WL.gnways hj hd ht hf
theorem WL.gyes {dst : Option Tmp} {op : Op} {ty : TypeId} {pos : String} {after : Array Edge} {j dj : Nat} {want : Bool} (hj : (ops[j]?).bind (·.dst) = some dj) (hd : r.get dj = some (.bool (dcd p))) (hp : p)
  (h : WL P ro n w0 ops Q (⟨dst, op, ty, pos, after, some (j, want)⟩ :: l) ((dj, .bool true) :: r) ds m H) : WL P ro n w0 ops Q (⟨dst, op, ty, pos, after, some (j, want)⟩ :: l) r ds m H := by
 have _ := hj
 exact .known dj true hd (zE hp) h
theorem WL.gno {dst : Option Tmp} {op : Op} {ty : TypeId} {pos : String} {after : Array Edge} {j dj : Nat} {want : Bool} (hj : (ops[j]?).bind (·.dst) = some dj) (hd : r.get dj = some (.bool (dcd p))) (hp : ¬ p)
  (h : WL P ro n w0 ops Q (⟨dst, op, ty, pos, after, some (j, want)⟩ :: l) ((dj, .bool false) :: r) ds m H) : WL P ro n w0 ops Q (⟨dst, op, ty, pos, after, some (j, want)⟩ :: l) r ds m H := by
 have _ := hj
 exact .known dj false hd (zH hp) h
theorem WL.gnyes {dst : Option Tmp} {op : Op} {ty : TypeId} {pos : String} {after : Array Edge} {j dj : Nat} {want : Bool} (hj : (ops[j]?).bind (·.dst) = some dj) (hd : r.get dj = some (.bool (!dcd p))) (hp : ¬ p)
  (h : WL P ro n w0 ops Q (⟨dst, op, ty, pos, after, some (j, want)⟩ :: l) ((dj, .bool true) :: r) ds m H) : WL P ro n w0 ops Q (⟨dst, op, ty, pos, after, some (j, want)⟩ :: l) r ds m H := by
 have _ := hj
 exact .known dj true hd (by simp [y6, hp]) h
theorem WL.gnno {dst : Option Tmp} {op : Op} {ty : TypeId} {pos : String} {after : Array Edge} {j dj : Nat} {want : Bool} (hj : (ops[j]?).bind (·.dst) = some dj) (hd : r.get dj = some (.bool (!dcd p))) (hp : p)
  (h : WL P ro n w0 ops Q (⟨dst, op, ty, pos, after, some (j, want)⟩ :: l) ((dj, .bool false) :: r) ds m H) : WL P ro n w0 ops Q (⟨dst, op, ty, pos, after, some (j, want)⟩ :: l) r ds m H := by
 have _ := hj
 exact .known dj false hd (by simp [y6, hp]) h
theorem WL.gis {dst : Option Tmp} {op : Op} {ty : TypeId} {pos : String} {after : Array Edge} {j dj : Nat} {want : Bool} (k : Bool) (hj : (ops[j]?).bind (·.dst) = some dj) (hd : r.get dj = some (.bool b)) (hb : b = k)
  (h : WL P ro n w0 ops Q (⟨dst, op, ty, pos, after, some (j, want)⟩ :: l) ((dj, .bool k) :: r) ds m H) : WL P ro n w0 ops Q (⟨dst, op, ty, pos, after, some (j, want)⟩ :: l) r ds m H := by
 have _ := hj
 exact .known dj k hd hb h
end
end Go.Eng
namespace Go.Eng
open Go Go.RowKit
section
variable {P : Program} {ro : Option Nat} {n : Nat} {w0 : World} {Q : Exit → Act → World → Prop} {r : Env} {ds : List Dfr} {m : Mem} {H : SHeap}
theorem WC.loop1 {c : Code} (h : WC P ro n w0 c (Exit.then (fun _ _ => False) Q) r ds m H) : WC P ro n w0 (.loop c) Q r ds m H :=
 fun tmps w ho hs => wpIn_loop_once (h tmps w ho hs)
def Gives (v : Value) (m : Mem) (H : SHeap) : Value → Mem → SHeap → Prop := fun v' m' H' => v' = v ∧ m' = m ∧ H' = H
theorem Gives.mk {v v' : Value} (h : v' = v) : Gives v m H v' m H := ⟨h, rfl, rfl⟩
theorem WQ.drop {e : Exit} {i : Item} (h : WQ n w0 Q e r ds m H) : WQ n w0 Q e r ds m (i :: H) := fun tmps w ho hs => h tmps w ho hs.drop
theorem WQ.fin0 {fn : Func} {Post : Value → Mem → SHeap → Prop} {H0 : SHeap} (v : Value) (hres : ∀ tmps w, r.ok n tmps → Sat w0 m H w → (results fn tmps).run P w = .ok v w) (hd : ∀ w, Sat w0 m H w → Sat w0 m H0 w) (hp : Post v m H0) :
  WQ n w0 (QFun P fn w0 Post) .ret r [] m H :=
 fun tmps w ho hs => ⟨v, hres tmps w ho hs, v, m, H0, rfl, hp, hd w hs⟩
theorem zR {fn : Func} {Post : Value → Mem → SHeap → Prop} {H0 : SHeap} {v : Value} (hp : Post v m H0) (hres : ∀ tmps w, r.ok n tmps → Sat w0 m H w → (results fn tmps).run P w = .ok v w := by (first | (apply vW; (· exact rfl); (· exact rfl)) | (apply uD; (· exact rfl); (· exact rfl); (· exact zlo)) | (apply uE; exact rfl) | (apply v8; (· exact rfl); (· repeat (first | exact ResAll.nil | (apply ResAll.tmp; (· exact rfl)) | (apply ResAll.cell; (· exact rfl); (· exact zlo)))); (· exact rfl)))) (hd : ∀ w, Sat w0 m H w → Sat w0 m H0 w := by ((repeat apply zCg); exact (fun w h => h))) : WQ n w0 (QFun P fn w0 Post) .ret r [] m H := WQ.fin0 v hres hd hp
theorem WQ.finNorm0 {fn : Func} {Post : Value → Mem → SHeap → Prop} {H0 : SHeap} (v : Value) (hres : ∀ tmps w, r.ok n tmps → Sat w0 m H w → (results fn tmps).run P w = .ok v w) (hd : ∀ w, Sat w0 m H w → Sat w0 m H0 w) (hp : Post v m H0) :
  WQ n w0 (QFun P fn w0 Post) .normal r [] m H :=
 fun tmps w ho hs => ⟨v, hres tmps w ho hs, v, m, H0, rfl, hp, hd w hs⟩
theorem qF {fn : Func} {Post : Value → Mem → SHeap → Prop} {H0 : SHeap} {v : Value} (hp : Post v m H0) (hres : ∀ tmps w, r.ok n tmps → Sat w0 m H w → (results fn tmps).run P w = .ok v w := by (first | (apply vW; (· exact rfl); (· exact rfl)) | (apply uD; (· exact rfl); (· exact rfl); (· exact zlo)) | (apply uE; exact rfl) | (apply v8; (· exact rfl); (· repeat (first | exact ResAll.nil | (apply ResAll.tmp; (· exact rfl)) | (apply ResAll.cell; (· exact rfl); (· exact zlo)))); (· exact rfl)))) (hd : ∀ w, Sat w0 m H w → Sat w0 m H0 w := by ((repeat apply zCg); exact (fun w h => h))) : WQ n w0 (QFun P fn w0 Post) .normal r [] m H := WQ.finNorm0 v hres hd hp
theorem zCg {i : Item} {H0 : SHeap} (h : ∀ w, Sat w0 m H w → Sat w0 m H0 w) : ∀ w, Sat w0 m (i :: H) w → Sat w0 m H0 w := fun w hs => h w hs.drop
theorem Sat.forget {m' : Mem} {w : World} (h : Sat w0 m' H w) (hm : m.le m') : Sat w0 m H w :=
 ⟨h.os, h.tape, h.output, h.size, fun b o hb => h.pers b o (hm b o hb), h.own, h.sep, fun b hb => by
  cases hq : m b with
  | none => rfl
  | some o => have := hm b o hq; rw [h.free b hb] at this; cases this⟩
theorem WL.persist {ops : Array Oper} {l : List Oper} {b : Nat} {o : Obj} {H1 : SHeap} (ho : Out (.blk b o) H H1) (h : ∀ m', m.le m' → m' b = some o → WL P ro n w0 ops Q l r ds m' H1) : WL P ro n w0 ops Q l r ds m H :=
 fun tmps w hok hs => by
  obtain ⟨h1, h2⟩ := (hs.perm ho.perm).persist
  exact h _ h2 (by simp [Mem.ins]) tmps w hok h1
theorem WC.persist {c : Code} {b : Nat} {o : Obj} {H1 : SHeap} (ho : Out (.blk b o) H H1) (h : ∀ m', m.le m' → m' b = some o → WC P ro n w0 c Q r ds m' H1) : WC P ro n w0 c Q r ds m H :=
 fun tmps w hok hs => by
  obtain ⟨h1, h2⟩ := (hs.perm ho.perm).persist
  exact h _ h2 (by simp [Mem.ins]) tmps w hok h1
theorem Cell.mem {b o : Nat} {L : List Value} {T : TypeId} {fz : Nat × Nat} {v : Value} (hm : m b = some (.cells L.toArray T fz)) (hv : L[o]? = some v) : Cell w0 m H ⟨b, o, none⟩ v := by
 intro w hs
 simp [World.cell?, hs.pers _ _ hm, hv]
theorem WC.loopW {c : Code} (r0 : Env) (hr : Env.Sub r0 r) (I : Nat → Env → List Dfr → Mem → SHeap → Prop) (j : Nat) (h0 : I j r0 ds m H)
  (round : ∀ j r ds m H, I j r ds m H → WC P ro n w0 c (zJ n w0 I j Q) r ds m H) : WC P ro n w0 (.loop c) Q r ds m H :=
 .weak hr (fun _ h => h) (.loop I j h0 round)
end
theorem zgm {v : Value} {m : Mem} {H : SHeap} : Gives v m H v m H := ⟨rfl, rfl, rfl⟩
end Go.Eng
