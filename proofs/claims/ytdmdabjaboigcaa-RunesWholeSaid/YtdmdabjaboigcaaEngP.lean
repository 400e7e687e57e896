/-
  A walk's engine, fifteenth part: loops that let go of what they need no more. No condition.
-/
import Derived.Test.YtdmdabjaboigcaaEngO
import Derived.Test.YtdmdabjaboigcaaEngL
set_option linter.all false
namespace Go.Eng
open Go Go.RowKit
section
variable {P : Program} {ro : Option Nat} {n : Nat} {w0 : World} {Q : Exit → Act → World → Prop} {r : Env} {ds : List Nat} {m : Mem} {H : SHeap}
theorem WC.loopH {c : Code} {H0 : SHeap} (r0 : Env) (hr : Env.Sub r0 r) (hh : ∀ w, Sat w0 m H w → Sat w0 m H0 w) (I : Nat → Env → List Nat → Mem → SHeap → Prop) (j : Nat) (h0 : I j r0 ds m H0)
    (round : ∀ j r ds m H, I j r ds m H → WC P ro n w0 c (QLoop n w0 I j Q) r ds m H) : WC P ro n w0 (.loop c) Q r ds m H :=
  fun tmps w ho hs => WC.loopW (H := H0) r0 hr I j h0 round tmps w ho (hh w hs)
/-- what lies in a row has room there -/
theorem row_cap {w : World} {a : Option Addr} {cap : Nat} {T : TypeId} {sz : Nat} {es : List (List Value)} (hs : Sat w0 m H w) (hm : Item.row a cap T sz es ∈ H) : es.length ≤ cap := by
  have h := hs.own _ hm
  cases a with
  | none =>
    have h' : es = [] ∧ cap = 0 := h
    rw [h'.1]; exact Nat.zero_le _
  | some a => exact h.choose_spec.choose_spec.2.2.2.1
theorem WL.rowCap {ops : Array Oper} {l : List Oper} {a : Option Addr} {cap : Nat} {T : TypeId} {sz : Nat} {es : List (List Value)} (hm : Item.row a cap T sz es ∈ H) (h : es.length ≤ cap → WL P ro n w0 ops Q l r ds m H) : WL P ro n w0 ops Q l r ds m H :=
  fun tmps w ho hs => h (row_cap hs hm) tmps w ho hs
theorem WC.rowCap {c : Code} {a : Option Addr} {cap : Nat} {T : TypeId} {sz : Nat} {es : List (List Value)} (hm : Item.row a cap T sz es ∈ H) (h : es.length ≤ cap → WC P ro n w0 c Q r ds m H) : WC P ro n w0 c Q r ds m H :=
  fun tmps w ho hs => h (row_cap hs hm) tmps w ho hs
/-- all marks of a function's end at once -/
theorem WQ.marks {fn : Func} {Post : Value → Mem → SHeap → Prop} : ∀ {ds : List Nat} {H H1 : SHeap}, List.Perm H ((ds.map fun D => Item.blk D (.deferred (some []))) ++ H1) → WQ n w0 (QFun P fn w0 Post) .ret r [] m H1 → WQ n w0 (QFun P fn w0 Post) .ret r ds m H
  | [], _, _, hp, h => fun tmps w ho hs => h tmps w ho (hs.perm hp)
  | _ :: _, _, _, hp, h => WQ.mark hp (WQ.marks (List.Perm.refl _) h)
section
variable {ops : Array Oper} {l : List Oper} {d : Nat} {t : TypeId} {ty : TypeId} {pos : String} {after : Array Edge}
theorem WL.pickIsT {c x y : Operand} {v : Value} {b : Bool} (hc : r.ev c = some (.bool b)) (hb : b = true) (hx : r.ev x = some v) (hd : Nat.blt d n = true) (h : WL P ro n w0 ops Q l ((d, v) :: r) ds m H) :
    WL P ro n w0 ops Q (⟨some d, .pick c x y, ty, pos, after, none⟩ :: l) r ds m H := .pick_t (by rw [hc, hb]) hx hd h
theorem w_pickIsT {c x y : Operand} {v : Value} {b : Bool} (h : WL P ro n w0 ops Q l ((d, v) :: r) ds m H) (hc : r.ev c = some (.bool b) := by exact rfl) (hb : b = true := by assumption) (hx : r.ev x = some v := by exact rfl) (hd : Nat.blt d n = true := by exact rfl) : WL P ro n w0 ops Q (⟨some d, .pick c x y, ty, pos, after, none⟩ :: l) r ds m H := WL.pickIsT hc hb hx hd h
theorem WL.pickIsF {c x y : Operand} {v : Value} {b : Bool} (hc : r.ev c = some (.bool b)) (hb : b = false) (hx : r.ev y = some v) (hd : Nat.blt d n = true) (h : WL P ro n w0 ops Q l ((d, v) :: r) ds m H) :
    WL P ro n w0 ops Q (⟨some d, .pick c x y, ty, pos, after, none⟩ :: l) r ds m H := .pick_f (by rw [hc, hb]) hx hd h
theorem w_pickIsF {c x y : Operand} {v : Value} {b : Bool} (h : WL P ro n w0 ops Q l ((d, v) :: r) ds m H) (hc : r.ev c = some (.bool b) := by exact rfl) (hb : b = false := by assumption) (hx : r.ev y = some v := by exact rfl) (hd : Nat.blt d n = true := by exact rfl) : WL P ro n w0 ops Q (⟨some d, .pick c x y, ty, pos, after, none⟩ :: l) r ds m H := WL.pickIsF hc hb hx hd h
end
end
/-- some of what is owned, in whatever order -/
inductive Pick : SHeap → SHeap → Prop
  | all {A : SHeap} : Pick A A
  | take {i : Item} {A A' B : SHeap} : Out i A A' → Pick A' B → Pick A (i :: B)
  | drop {i : Item} {A B : SHeap} : Pick A B → Pick (i :: A) B
theorem Pick.sat {w0 : World} {m : Mem} {A B : SHeap} (h : Pick A B) : ∀ {w : World}, Sat w0 m A w → Sat w0 m B w := by
  induction h with
  | all => exact fun h => h
  | @take i A A' B ho _ ih =>
    intro w hs
    have h1 := hs.perm ho.perm
    have h2 := ih h1.drop
    have hsub : ∀ b ∈ SHeap.foot B, b ∈ SHeap.foot A' := by
      rename_i hp
      clear ih h2
      intro b hb
      have key : ∀ {A B : SHeap}, Pick A B → ∀ b ∈ SHeap.foot B, b ∈ SHeap.foot A := by
        intro A B hp
        induction hp with
        | all => exact fun _ h => h
        | take ho _ ih =>
          intro b hb
          have hf := List.Perm.flatMap_right Item.foot ho.perm
          refine hf.mem_iff.2 ?_
          simp only [List.flatMap_cons, List.mem_append, SHeap.foot] at hb ⊢
          rcases hb with hb | hb
          · exact .inl hb
          · exact .inr (ih b hb)
        | drop _ ih =>
          intro b hb
          simp only [SHeap.foot, List.flatMap_cons, List.mem_append]
          exact .inr (ih b hb)
      exact key hp b hb
    have hsep := h1.sep
    simp only [SHeap.foot, List.flatMap_cons, List.nodup_append] at hsep
    refine ⟨h2.os, h2.tape, h2.output, h2.size, h2.pers, ?_, ?_, ?_⟩
    · intro x hx
      cases hx with
      | head => exact h1.own _ List.mem_cons_self
      | tail _ hx => exact h2.own x hx
    · simp only [SHeap.foot, List.flatMap_cons, List.nodup_append]
      exact ⟨hsep.1, h2.sep, fun a ha b hb => hsep.2.2 a ha b (hsub b hb)⟩
    · intro b hb
      simp only [SHeap.foot, List.flatMap_cons, List.mem_append] at hb
      rcases hb with hb | hb
      · exact h1.free b (by simp only [SHeap.foot, List.flatMap_cons, List.mem_append]; exact .inl hb)
      · exact h2.free b hb
  | drop _ ih => exact fun hs => ih hs.drop
/-- a part of a row of one's own -/
theorem RowR.subRow {w0 : World} {m : Mem} {H : SHeap} {T : TypeId} {sz cap lo hi : Nat} {a : Option Addr} {es : List (List Value)} (hm : Item.row a cap T sz es ∈ H) (hb : lo ≤ hi ∧ hi ≤ es.length) :
    RowR w0 m H sz (if cap = lo then a else a.map (·.add (lo * sz))) ((es.take hi).drop lo) := by
  intro w hs
  have hc : es.length ≤ cap := row_cap hs hm
  exact (RowR.row hm).sub hb hc w hs
theorem Does.callsW {P : Program} {f : FuncId} {args : Array Value} {w : World} {v : Value} (h : Does P f args w (memOf w) [] (fun v' m' _ => v' = v ∧ (memOf w).le m')) :
    Calls P f args w fun e w' => e = .returned v ∧ Below w.heap.size w w' := by
  have h1 := h w (Sat.start w)
  have h2 : CallsIn Fence.wide 0 P f args w fun e w' => e = .returned v ∧ Below w.heap.size w w' := h1.mono fun e w' ⟨v', m', H', he, hg, hs⟩ => by
    obtain ⟨rfl, hm⟩ := hg
    exact ⟨he, (hs.forget hm).below⟩
  exact callsIn_wide.1 h2
end Go.Eng
