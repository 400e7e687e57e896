/-
  Parts of a walk, joined: EngP EngQ EngV OP0 OV EngR EngM. No condition.
-/
import Derived.Test.YtljfncpecpkhhaaP2
import Derived.ChangeMaps5
import Derived.ReadAgain
import Derived.ChangeBook
import Derived.Deep.Slices
import Derived.WalkKit
import Derived.ProofKit
import Derived.OpenShut
import Derived.JoinedCond
import Derived.Deep.Strs
import Derived.Test.YtljfncpecpkhhaaP1
import Derived.Test.YtljfncpecpkhhaaRows
import Derived.Scope
import Derived.Lib.ConvBytes
set_option linter.all false
/-
  A walk's engine, fifteenth part: loops that let go of what they need no more. No condition.
-/
set_option linter.all false
namespace Go.Eng
open Go Go.RowKit
section
variable {P : Program} {ro : Option Nat} {n : Nat} {w0 : World} {Q : Exit → Act → World → Prop} {r : Env} {ds : List Nat} {m : Mem} {H : SHeap}
theorem WC.loopH {c : Code} {H0 : SHeap} (r0 : Env) (hr : Env.Sub r0 r) (hh : ∀ w, Sat w0 m H w → Sat w0 m H0 w) (I : Nat → Env → List Nat → Mem → SHeap → Prop) (j : Nat) (h0 : I j r0 ds m H0)
    (round : ∀ j r ds m H, I j r ds m H → WC P ro n w0 c (QLoop n w0 I j Q) r ds m H) : WC P ro n w0 (.loop c) Q r ds m H :=
  fun tmps w ho hs => WC.loopW (H := H0) r0 hr I j h0 round tmps w ho (hh w hs)
/-- what lies in a row has room there -/
theorem row_cap {w : World} {a : Option Addr} {cap : Nat} {T : TypeId} {sz : Nat} {es : List (List Value)} (hs : Sat w0 m H w) (hm : Item.row a cap T sz es ∈ H) : es.length ≤ cap := by
  have h := hs.own _ hm
  cases a with
  | none =>
    have h' : es = [] ∧ cap = 0 := h
    rw [h'.1]; exact Nat.zero_le _
  | some a => exact h.choose_spec.choose_spec.2.2.2.1
theorem WL.rowCap {ops : Array Oper} {l : List Oper} {a : Option Addr} {cap : Nat} {T : TypeId} {sz : Nat} {es : List (List Value)} (hm : Item.row a cap T sz es ∈ H) (h : es.length ≤ cap → WL P ro n w0 ops Q l r ds m H) : WL P ro n w0 ops Q l r ds m H :=
  fun tmps w ho hs => h (row_cap hs hm) tmps w ho hs
theorem WC.rowCap {c : Code} {a : Option Addr} {cap : Nat} {T : TypeId} {sz : Nat} {es : List (List Value)} (hm : Item.row a cap T sz es ∈ H) (h : es.length ≤ cap → WC P ro n w0 c Q r ds m H) : WC P ro n w0 c Q r ds m H :=
  fun tmps w ho hs => h (row_cap hs hm) tmps w ho hs
/-- all marks of a function's end at once -/
theorem WQ.marks {fn : Func} {Post : Value → Mem → SHeap → Prop} : ∀ {ds : List Nat} {H H1 : SHeap}, List.Perm H ((ds.map fun D => Item.blk D (.deferred (some []))) ++ H1) → WQ n w0 (QFun P fn w0 Post) .ret r [] m H1 → WQ n w0 (QFun P fn w0 Post) .ret r ds m H
  | [], _, _, hp, h => fun tmps w ho hs => h tmps w ho (hs.perm hp)
  | _ :: _, _, _, hp, h => WQ.mark hp (WQ.marks (List.Perm.refl _) h)
section
variable {ops : Array Oper} {l : List Oper} {d : Nat} {t : TypeId} {ty : TypeId} {pos : String} {after : Array Edge}
theorem WL.pickIsT {c x y : Operand} {v : Value} {b : Bool} (hc : r.ev c = some (.bool b)) (hb : b = true) (hx : r.ev x = some v) (hd : Nat.blt d n = true) (h : WL P ro n w0 ops Q l ((d, v) :: r) ds m H) :
    WL P ro n w0 ops Q (⟨some d, .pick c x y, ty, pos, after, none⟩ :: l) r ds m H := .pick_t (by rw [hc, hb]) hx hd h
theorem WL.pickIsF {c x y : Operand} {v : Value} {b : Bool} (hc : r.ev c = some (.bool b)) (hb : b = false) (hx : r.ev y = some v) (hd : Nat.blt d n = true) (h : WL P ro n w0 ops Q l ((d, v) :: r) ds m H) :
    WL P ro n w0 ops Q (⟨some d, .pick c x y, ty, pos, after, none⟩ :: l) r ds m H := .pick_f (by rw [hc, hb]) hx hd h
end
end
/-- some of what is owned, in whatever order -/
inductive Pick : SHeap → SHeap → Prop
  | all {A : SHeap} : Pick A A
  | take {i : Item} {A A' B : SHeap} : Out i A A' → Pick A' B → Pick A (i :: B)
  | drop {i : Item} {A B : SHeap} : Pick A B → Pick (i :: A) B
theorem Pick.sat {w0 : World} {m : Mem} {A B : SHeap} (h : Pick A B) : ∀ {w : World}, Sat w0 m A w → Sat w0 m B w := by
  induction h with
  | all => exact fun h => h
  | @take i A A' B ho _ ih =>
    intro w hs
    have h1 := hs.perm ho.perm
    have h2 := ih h1.drop
    have hsub : ∀ b ∈ SHeap.foot B, b ∈ SHeap.foot A' := by
      rename_i hp
      clear ih h2
      intro b hb
      have key : ∀ {A B : SHeap}, Pick A B → ∀ b ∈ SHeap.foot B, b ∈ SHeap.foot A := by
        intro A B hp
        induction hp with
        | all => exact fun _ h => h
        | take ho _ ih =>
          intro b hb
          have hf := List.Perm.flatMap_right Item.foot ho.perm
          refine hf.mem_iff.2 ?_
          simp only [List.flatMap_cons, List.mem_append, SHeap.foot] at hb ⊢
          rcases hb with hb | hb
          · exact .inl hb
          · exact .inr (ih b hb)
        | drop _ ih =>
          intro b hb
          simp only [SHeap.foot, List.flatMap_cons, List.mem_append]
          exact .inr (ih b hb)
      exact key hp b hb
    have hsep := h1.sep
    simp only [SHeap.foot, List.flatMap_cons, List.nodup_append] at hsep
    refine ⟨h2.os, h2.tape, h2.output, h2.size, h2.pers, ?_, ?_, ?_⟩
    · intro x hx
      cases hx with
      | head => exact h1.own _ List.mem_cons_self
      | tail _ hx => exact h2.own x hx
    · simp only [SHeap.foot, List.flatMap_cons, List.nodup_append]
      exact ⟨hsep.1, h2.sep, fun a ha b hb => hsep.2.2 a ha b (hsub b hb)⟩
    · intro b hb
      simp only [SHeap.foot, List.flatMap_cons, List.mem_append] at hb
      rcases hb with hb | hb
      · exact h1.free b (by simp only [SHeap.foot, List.flatMap_cons, List.mem_append]; exact .inl hb)
      · exact h2.free b hb
  | drop _ ih => exact fun hs => ih hs.drop
theorem Does.callsW {P : Program} {f : FuncId} {args : Array Value} {w : World} {v : Value} (h : Does P f args w (memOf w) [] (fun v' m' _ => v' = v ∧ (memOf w).le m')) :
    Calls P f args w fun e w' => e = .returned v ∧ Below w.heap.size w w' := by
  have h1 := h w (Sat.start w)
  have h2 : CallsIn Fence.wide 0 P f args w fun e w' => e = .returned v ∧ Below w.heap.size w w' := h1.mono fun e w' ⟨v', m', H', he, hg, hs⟩ => by
    obtain ⟨rfl, hm⟩ := hg
    exact ⟨he, (hs.forget hm).below⟩
  exact callsIn_wide.1 h2
end Go.Eng

/-
  A walk's engine, sixteenth part: how a law's arguments are read, ahead of the call and behind it. No condition.
-/
set_option linter.all false
namespace Go.Eng
open Go Go.RowKit Go.ChangeShapes Go.WideShapes Go.ChangeMaps
section
variable {H : Type} {enc : TypeId × Value → H} {P : Program}
theorem same_below {W W' : World} (hb : Below W.heap.size W W') {p : MemPlace} (hp : p.block < W.heap.size) : W.sameAt W' p := by
  cases p with
  | cell b off =>
    have h := hb.block b hp
    show W'.cell? ⟨b, off, none⟩ = W.cell? ⟨b, off, none⟩
    simp only [World.cell?, h]
  | map b => exact hb.block b hp
theorem trod_again {W W' : World} {sp : Nat → Bool} {t : TypeId} {v : Value} {d : DataW H} {p : List MemPlace} (hl : laidOutB P = true) (ht : t < P.types.size) (hr : P.readableRec t = true)
    (h : DataW.Trod enc P W 0 (fun _ => true) true t v d p) (hlt : ∀ q ∈ p, q.block < W.heap.size) (hb : Below W.heap.size W W') (hs : ∀ q ∈ p, sp q.block = true) : DataW.Trod enc P W' 0 sp true t v d p := by
  obtain ⟨n, hn⟩ := h
  have h1 := DataW.trod_carry (w' := W') n _ _ _ hn (fun q hq => same_below hb (hlt q hq))
  exact ⟨n, DataW.trod_respare (kids_book hl hr) (fun t e hT hu => book_sized hr hT hu) n _ _ _ ⟨ht, book_self t⟩ h1 hs⟩
theorem args_again {W W' : World} {sp : Nat → Bool} (hl : laidOutB P = true) (hb : Below W.heap.size W W') : ∀ {ts : List TypeId} {vs : List Value} {ds : List (DataW H)} {p : List MemPlace},
    (∀ t ∈ ts, t < P.types.size ∧ P.readableRec t = true) → DataW.TrodAll enc P W 0 (fun _ => true) true ts vs ds p → (∀ q ∈ p, sp q.block = true) → DataW.TrodAll enc P W' 0 sp true ts vs ds p
  | [], [], [], _, _, h, _ => h
  | t :: ts, v :: vs, d :: ds, p, hts, h, hs => by
    have hlt := DataW.TrodAll.lt h
    obtain ⟨a, b, h1, h2, e⟩ := h
    subst e
    obtain ⟨g1, g2⟩ := hts t List.mem_cons_self
    exact ⟨a, b, trod_again hl g1 g2 h1 (fun q hq => hlt q (List.mem_append_left _ hq)) hb (fun q hq => hs q (List.mem_append_left _ hq)),
      args_again hl hb (fun t ht => hts t (List.mem_cons_of_mem _ ht)) h2 (fun q hq => hs q (List.mem_append_right _ hq)), rfl⟩
/-- a law that says true, and leaves all that it was handed -/
theorem post_true {f : Func} {s : ChangeSpec} {apart fresh handsOn again : Bool} {W W' : World} {args : Array Value} {ds gs : List (DataW H)} {before : List MemPlace} {tb : TypeId}
    (hW : DataW.Whole enc P f.params.toList s.vars apart W args.toList ds gs before) (hvars : s.vars = []) (hfn : s.fn H (ds ++ gs) = { results := [.lit (.bool true)], args := ds })
    (hres : f.resultTypes = #[tb]) (htb : P.underlying tb = some .bool) (hl : laidOutB P = true) (hts : (f.params.toList.all fun t => decide (t < P.types.size) && P.readableRec t) = true) (hb : Below W.heap.size W W') :
    s.post enc P f apart fresh handsOn again W args (.bool true) W' := by
  have hW2 := hW
  obtain ⟨p, q, hA, hV, e, _, _⟩ := hW
  rw [hvars] at hV
  obtain ⟨rfl, rfl⟩ := trodVars_none hV
  rw [List.append_nil] at e
  subst e
  have hts' : ∀ t ∈ f.params.toList, t < P.types.size ∧ P.readableRec t = true := fun t ht => by simpa using List.all_eq_true.1 hts t ht
  refine post_below (pa := before) (pv := []) hW2 (fun _ _ _ => ?_) (fun sp hs => ?_) (fun _ _ => ?_) (by simp) hb ?_
  · rw [hfn, hres]; exact trodAll_cons_mk (shut_bool htb _) trodAll_mk0
  · rw [hfn]; exact args_again hl hb hts' hA hs
  · rw [hfn, hvars]; rfl
  · intro j t r h1 h2
    rw [hres] at h1 h2
    match j, h1 with
    | 0, h1 =>
      simp at h1; subst h1
      simp [Value.resultList] at h2
      subst h2
      exact okWide_bool_mk htb _
/-- a slice that came in, of elements of one cell -/
theorem RowR.came {w0 W : World} {Hp : SHeap} {sz : Nat} {a : Option Addr} {es : List (List Value)} (h1 : ∀ e ∈ es, e.length = sz)
    (h2 : match a with | .none => es = [] | .some b => ∀ j v, es.flatten[j]? = .some v → W.cell? (b.add j) = .some v) : RowR w0 (memOf W) Hp sz a es := by
  intro w hs
  refine ⟨h1, ?_⟩
  cases a with
  | none => exact h2
  | some b =>
    intro j v hj
    have hc := h2 j v hj
    generalize b.add j = c at hc ⊢
    obtain ⟨b, o, s⟩ := c
    cases hh : W.heap[b]? with
    | none => cases s <;> simp [World.cell?, hh] at hc
    | some ob =>
      have := hs.pers b ob hh
      cases s <;> simpa [World.cell?, this, hh] using hc
end
end Go.Eng

/-
  A walk's engine: a law's arguments that are slices of elements of several cells. No condition.
-/
set_option linter.all false
namespace Go.Eng
open Go Go.RowKit Go.ChangeShapes Go.WideShapes Go.ChangeMaps
section
variable {H : Type} {enc : TypeId × Value → H} {P : Program}
theorem rows_at {sz : Nat} : ∀ {es : List (List Value)}, (∀ e ∈ es, e.length = sz) → ∀ {j : Nat} {v : Value}, es.flatten[j]? = some v → ∃ i c e, es[i]? = some e ∧ c < sz ∧ j = i * sz + c ∧ e[c]? = some v
  | [], _, j, v, h => by simp at h
  | e :: es, he, j, v, h => by
    have hl : e.length = sz := he e List.mem_cons_self
    rw [List.flatten_cons] at h
    by_cases hj : j < sz
    · rw [List.getElem?_append_left (by omega)] at h
      exact ⟨0, j, e, rfl, hj, by simp, h⟩
    · rw [List.getElem?_append_right (by omega), hl] at h
      obtain ⟨i, c, e', h1, h2, h3, h4⟩ := rows_at (fun x hx => he x (List.mem_cons_of_mem _ hx)) h
      exact ⟨i + 1, c, e', by simpa using h1, h2, by rw [Nat.add_mul, Nat.one_mul]; omega, h4⟩
theorem open_rows {α : Type} [Inhabited α] (sz : Nat) (val : α → List Value) (dat : α → DataW H) (ok : α → Prop) (hsz : ∀ x, (val x).length = sz) {W : World} {r : Go.Reach} {b0 : Nat} {t e : TypeId} {v : Value} {d : DataW H} {ps : List MemPlace} (ht : P.underlying t = some (.slice e)) (hc : P.cellsOf e = sz)
    (hone : ∀ (n : Nat) (u : List Value) (y : DataW H × List MemPlace), DataW.trod enc P W 0 (fun _ => true) true n e u = some y → ∃ x, u = val x ∧ y.1 = dat x ∧ ok x)
    (hval : Value.okWide P W r b0 t v) (h : DataW.Trod enc P W 0 (fun _ => true) true t v d ps) : ∃ (a : Option Addr) (cap : Nat) (ns : List α) (spare : List (DataW H)), v = .slice a ns.length cap ∧ ns.length ≤ cap ∧ (∀ x ∈ ns, ok x) ∧
      (d = .nil ∧ ns = [] ∨ d = .slice (ns.map dat) spare) ∧ ∀ w0 Hp, RowR w0 (memOf W) Hp sz a (ns.map val) := by
  obtain ⟨a, len, cap, rfl⟩ := okWide_slice ht hval
  obtain ⟨n, hn⟩ := h
  rcases Deep.open_slice ht hn with ⟨h1, h2⟩ | ⟨a', len', cap', m, n', D, Pl, h1, _, hle, _, hm, h2, hx⟩
  · simp [Value.cells] at h1
    obtain ⟨rfl, rfl, rfl⟩ := h1
    exact ⟨none, 0, [], [], rfl, Nat.le_refl _, (by simp), .inl ⟨congrArg Prod.fst h2, rfl⟩, fun _ _ => RowR.nil⟩
  · simp [Value.cells] at h1
    obtain ⟨rfl, rfl, rfl⟩ := h1
    simp only [if_true] at hm
    subst hm
    rw [hc] at hx
    obtain ⟨X, hX⟩ := Deep.choose_lt (α := α) (n := m) (p := fun i x => W.cells? 0 (a'.add (i * sz)) sz = some (val x) ∧ D i = dat x ∧ ok x) (fun i hi => by
      obtain ⟨u, g1, g2⟩ := hx i hi
      obtain ⟨x, rfl, e2, e3⟩ := hone _ _ _ g2
      exact ⟨x, g1, e2, e3⟩)
    refine ⟨some a', m, (List.range len).map X, (List.range (m - len)).map fun j => D (len + j), by simp, by simpa using hle, ?_, .inr ?_, fun w0 Hp => ?_⟩
    · intro x hxm
      obtain ⟨i, hi, rfl⟩ := List.mem_map.1 hxm
      exact (hX i (by have := List.mem_range.1 hi; omega)).2.2
    · have := congrArg Prod.fst h2
      simp only at this
      rw [this, List.map_map]
      congr 1
      exact List.map_congr_left fun i hi => (hX i (by have := List.mem_range.1 hi; omega)).2.1
    · have hall : ∀ e ∈ ((List.range len).map X).map val, e.length = sz := by
        intro e he
        obtain ⟨x, _, rfl⟩ := List.mem_map.1 he
        exact hsz x
      refine RowR.came hall ?_
      intro j v hj
      obtain ⟨i, c, e, h1, h2, rfl, h4⟩ := rows_at hall hj
      rw [List.getElem?_map, List.getElem?_map] at h1
      obtain ⟨x, hx1, rfl⟩ := Option.map_eq_some_iff.1 h1
      obtain ⟨i', hi, rfl⟩ := Option.map_eq_some_iff.1 hx1
      obtain ⟨hjl, rfl⟩ := List.getElem?_eq_some_iff.1 hi
      rw [List.getElem_range] at h4
      have hjl' : i < len := by simpa using hjl
      have g := (World.cells?_some (hX i (by omega)).1).2.2 c h2
      rw [h4] at g
      rw [← g, Go.Addr.add_add]
end
end Go.Eng

/-
  The steps of the law RopePlays, in plain. No condition.
-/
namespace Go.Eng
open Go
structure Ply where
  kind : Int
  who : Int
  is_ : Int
  from_ : Int
  to_ : Int
  text : List UInt8
instance : Inhabited Ply := ⟨⟨0, 0, 0, 0, 0, []⟩⟩
def Ply.cs (x : Ply) : List Value := [.int .i64 x.kind, .int .i64 x.who, .int .i64 x.is_, .int .i64 x.from_, .int .i64 x.to_, str x.text]
end Go.Eng

/-
  How the argument of the law RopePlays is read: steps of five numbers and a text. No condition.
-/
namespace Go.Eng
open Go Go.RowKit Go.ChangeShapes Go.WideShapes Go.ChangeMaps
def Ply.dat {H : Type} (x : Ply) : DataW H := .agg [.lit (.int .i64 x.kind), .lit (.int .i64 x.who), .lit (.int .i64 x.is_), .lit (.int .i64 x.from_), .lit (.int .i64 x.to_), .lit (.string x.text)]
theorem open_plays {H : Type} {enc : TypeId × Value → H} {P : Program} {f0 f1 f2 f3 f4 f5 : Field} {W : World} {r : Go.Reach} {b0 : Nat} {t e : TypeId} {v : Value} {d : DataW H} {ps : List MemPlace} (ht : P.underlying t = some (.slice e)) (he : P.underlying e = some (.struct #[f0, f1, f2, f3, f4, f5])) (hc : P.cellsOf e = 6)
    (h0 : f0.offset = 0 ∧ P.underlying f0.type = some (.int .i64) ∧ P.cellsOf f0.type = 1) (h1 : f1.offset = 1 ∧ P.underlying f1.type = some (.int .i64) ∧ P.cellsOf f1.type = 1) (h2 : f2.offset = 2 ∧ P.underlying f2.type = some (.int .i64) ∧ P.cellsOf f2.type = 1)
    (h3 : f3.offset = 3 ∧ P.underlying f3.type = some (.int .i64) ∧ P.cellsOf f3.type = 1) (h4 : f4.offset = 4 ∧ P.underlying f4.type = some (.int .i64) ∧ P.cellsOf f4.type = 1) (h5 : f5.offset = 5 ∧ P.underlying f5.type = some .string ∧ P.cellsOf f5.type = 1)
    (hval : Value.okWide P W r b0 t v) (h : DataW.Trod enc P W 0 (fun _ => true) true t v d ps) : ∃ (a : Option Addr) (cap : Nat) (S : List Ply), v = .slice a S.length cap ∧ S.length ≤ cap ∧
      (∃ spare : List (DataW H), d = .nil ∧ S = [] ∨ d = .slice (S.map Ply.dat) spare) ∧ ∀ w0 Hp, RowR w0 (memOf W) Hp 6 a (S.map Ply.cs) := by
  obtain ⟨a, cap, ns, sp, e1, e2, e3, e4, e5⟩ := open_rows 6 Ply.cs Ply.dat (fun _ => True) (fun _ => rfl) ht hc (fun n u y hy => by
    obtain ⟨xs, n', _, hx, hl, hlen, hf⟩ := DataW.trod_struct he hy
    rw [hc] at hl
    obtain ⟨c0, c1, c2, c3, c4, c5, rfl⟩ : ∃ c0 c1 c2 c3 c4 c5, u = [c0, c1, c2, c3, c4, c5] := by
      match u, hl with
      | [c0, c1, c2, c3, c4, c5], _ => exact ⟨c0, c1, c2, c3, c4, c5, rfl⟩
    match xs, hlen with
    | [y0, y1, y2, y3, y4, y5], _ =>
      have q0 := hf 0 f0 rfl
      have q1 := hf 1 f1 rfl
      have q2 := hf 2 f2 rfl
      have q3 := hf 3 f3 rfl
      have q4 := hf 4 f4 rfl
      have q5 := hf 5 f5 rfl
      rw [h0.1, h0.2.2] at q0
      rw [h1.1, h1.2.2] at q1
      rw [h2.1, h2.2.2] at q2
      rw [h3.1, h3.2.2] at q3
      rw [h4.1, h4.2.2] at q4
      rw [h5.1, h5.2.2] at q5
      obtain ⟨x0, b0, d0, w0⟩ := DataW.trod_int h0.2.1 q0
      obtain ⟨x1, b1, d1, w1⟩ := DataW.trod_int h1.2.1 q1
      obtain ⟨x2, b2, d2, w2⟩ := DataW.trod_int h2.2.1 q2
      obtain ⟨x3, b3, d3, w3⟩ := DataW.trod_int h3.2.1 q3
      obtain ⟨x4, b4, d4, w4⟩ := DataW.trod_int h4.2.1 q4
      obtain ⟨x5, b5, d5, w5⟩ := DataW.trod_string h5.2.1 q5
      simp at b0 b1 b2 b3 b4 b5
      refine ⟨⟨x0, x1, x2, x3, x4, x5.data.toList⟩, ?_, ?_, trivial⟩
      · rw [b0, b1, b2, b3, b4, b5]; rfl
      · have := congrArg Prod.fst hx
        simp only at this
        rw [this]
        simp [Ply.dat, d0, d1, d2, d3, d4, d5]) hval h
  exact ⟨a, cap, ns, e1, e2, ⟨sp, e4⟩, e5⟩
end Go.Eng
namespace Go.Proofs.Ytljfncpecpkhhaa
open Go Go.Eng
theorem plays_len {H : Type} (l : List Ply) : l.length ≤ Rows.uptoBulkAll (l.map (Ply.dat (H := H))) ∧ ∀ x ∈ l, x.text.length ≤ Rows.uptoBulkAll (l.map (Ply.dat (H := H))) := by
  induction l with
  | nil => simp
  | cons x l ih =>
    have h1 : x.text.length + 1 ≤ Rows.uptoBulk (Ply.dat (H := H) x) := by simp only [Ply.dat, Rows.uptoBulk, Rows.uptoBulkAll]; omega
    simp only [List.map_cons, Rows.uptoBulkAll, List.length_cons]
    refine ⟨by omega, fun y hy => ?_⟩
    rcases List.mem_cons.1 hy with rfl | hy
    · omega
    · have := ih.2 y hy; omega
theorem plays_fit {H : Type} {d : DataW H} {S : List Ply} (hd : ∃ spare : List (DataW H), d = .nil ∧ S = [] ∨ d = .slice (S.map Ply.dat) spare) (hb : Rows.uptoBulk d ≤ 1048576) : S.length ≤ 1048576 ∧ ∀ x ∈ S, x.text.length ≤ 1048576 := by
  obtain ⟨sp, ⟨rfl, rfl⟩ | rfl⟩ := hd
  · simp
  · simp only [Rows.uptoBulk] at hb
    obtain ⟨h1, h2⟩ := plays_len (H := H) S
    exact ⟨by omega, fun x hx => by have := h2 x hx; omega⟩
end Go.Proofs.Ytljfncpecpkhhaa

/-
  A walk's engine, seventeenth part: functions, pointers, slices held against nil; scopes and labels; a text's bytes. No condition.
-/
set_option linter.all false
namespace Go.Eng
open Go Go.RowKit
section
variable {P : Program} {ro : Option Nat} {n : Nat} {w0 : World} {Q : Exit → Act → World → Prop} {r : Env} {ds : List Nat} {m : Mem} {H : SHeap}
  {ops : Array Oper} {l : List Oper} {d : Nat} {ty : TypeId} {pos : String} {after : Array Edge} {t t' : TypeId} {x y : Operand}
theorem WL.eqlNilF {c : Fn} {a b : Array Value} {ps rs : Array TypeId} {va : Bool} (hx : r.ev x = some (.func c a b)) (hy : r.ev y = some .nilFunc) (hu : P.underlying t = some (.func ps rs va)) (hd : Nat.blt d n = true)
    (h : WL P ro n w0 ops Q l ((d, .bool false) :: r) ds m H) : WL P ro n w0 ops Q (⟨some d, .binOp .eql t x y t', ty, pos, after, none⟩ :: l) r ds m H :=
  .val hd (fun _ h => by cases h) (fun tmps w ho _ => by
    have h2 : (eqGuard .eql t x y (.func c a b) .nilFunc) = pure () := rfl
    have h3 : ∀ e, (Op.equalIn (e + 1) t (.func c a b) .nilFunc).run P w = .ok false w := fun e => by simp [Op.equalIn, run_underlying hu]
    have h4 := h3 9999
    simp [execOp, ho.ev hx, ho.ev hy, h2, binOp, Op.equal, show Op.maxDepth = 9999 + 1 from rfl, h4]) h

/-- two values of which one is nil -/
theorem WL.eqNil {op : BinOp} {vx vy : Value} {b : Bool} (hop : op = .eql ∨ op = .neq) (hg : ∀ op, eqGuard op t x y vx vy = pure ()) (hx : r.ev x = some vx) (hy : r.ev y = some vy)
    (hk : ∀ (d : Nat) (w : World), (Op.equalIn (d + 1) t vx vy).run P w = .ok b w) (hb : ∀ op, op = .eql ∨ op = .neq → binOp op t vx vy = (do let c ← Op.equal t vx vy; pure (.bool (if op = .eql then c else !c)))) (hd : Nat.blt d n = true)
    (h : WL P ro n w0 ops Q l ((d, .bool (if op = .eql then b else !b)) :: r) ds m H) : WL P ro n w0 ops Q (⟨some d, .binOp op t x y t', ty, pos, after, none⟩ :: l) r ds m H :=
  .val hd (fun _ h => by cases h) (fun tmps w ho _ => by
    have h4 := hk 9999 w
    simp [execOp, ho.ev hx, ho.ev hy, hg, hb op hop, Op.equal, show Op.maxDepth = 9999 + 1 from rfl, h4]) h
theorem WL.eqlNilP {a : Option Addr} {e : TypeId} (hx : r.ev x = some (.pointer a)) (hy : r.ev y = some (.pointer none)) (hu : P.underlying t = some (.pointer e)) (hd : Nat.blt d n = true)
    (h : WL P ro n w0 ops Q l ((d, .bool a.isNone) :: r) ds m H) : WL P ro n w0 ops Q (⟨some d, .binOp .eql t x y t', ty, pos, after, none⟩ :: l) r ds m H :=
  .eqNil (op := .eql) (b := a.isNone) (.inl rfl) (fun _ => by unfold eqGuard; split <;> rfl) hx hy (fun d w => by cases a <;> simp [Op.equalIn, run_underlying hu]) (by rintro _ (rfl | rfl) <;> rfl) hd h
theorem WL.neqNilP {a : Option Addr} {e : TypeId} (hx : r.ev x = some (.pointer a)) (hy : r.ev y = some (.pointer none)) (hu : P.underlying t = some (.pointer e)) (hd : Nat.blt d n = true)
    (h : WL P ro n w0 ops Q l ((d, .bool (!a.isNone)) :: r) ds m H) : WL P ro n w0 ops Q (⟨some d, .binOp .neq t x y t', ty, pos, after, none⟩ :: l) r ds m H :=
  .eqNil (op := .neq) (b := a.isNone) (.inr rfl) (fun _ => by unfold eqGuard; split <;> rfl) hx hy (fun d w => by cases a <;> simp [Op.equalIn, run_underlying hu]) (by rintro _ (rfl | rfl) <;> rfl) hd h
theorem WL.eqlNilSl {a : Option Addr} {len cap : Nat} {e : TypeId} (hx : r.ev x = some (.slice a len cap)) (hy : r.ev y = some (.slice none 0 0)) (hu : P.underlying t = some (.slice e)) (hd : Nat.blt d n = true)
    (h : WL P ro n w0 ops Q l ((d, .bool a.isNone) :: r) ds m H) : WL P ro n w0 ops Q (⟨some d, .binOp .eql t x y t', ty, pos, after, none⟩ :: l) r ds m H :=
  .eqNil (op := .eql) (b := a.isNone) (.inl rfl) (fun _ => by unfold eqGuard; split <;> rfl) hx hy (fun d w => by cases a <;> simp [Op.equalIn, run_underlying hu]) (by rintro _ (rfl | rfl) <;> rfl) hd h
theorem WL.neqNilSl {a : Option Addr} {len cap : Nat} {e : TypeId} (hx : r.ev x = some (.slice a len cap)) (hy : r.ev y = some (.slice none 0 0)) (hu : P.underlying t = some (.slice e)) (hd : Nat.blt d n = true)
    (h : WL P ro n w0 ops Q l ((d, .bool (!a.isNone)) :: r) ds m H) : WL P ro n w0 ops Q (⟨some d, .binOp .neq t x y t', ty, pos, after, none⟩ :: l) r ds m H :=
  .eqNil (op := .neq) (b := a.isNone) (.inr rfl) (fun _ => by unfold eqGuard; split <;> rfl) hx hy (fun d w => by cases a <;> simp [Op.equalIn, run_underlying hu]) (by rintro _ (rfl | rfl) <;> rfl) hd h
/-- a text's bytes, in memory of their own -/
theorem WL.strBytes {src dst e : TypeId} {s : List UInt8} (hx : r.ev x = some (str s)) (hs1 : (P.underlying src).isSome = true) (hs2 : P.underlying dst = some (.slice e)) (hs3 : P.underlying e = some (.int .u8)) (hd : Nat.blt d n = true)
    (h : ∀ b cap, WL P ro n w0 ops Q l ((d, .slice (some ⟨b, 0, none⟩) s.length cap) :: r) ds m (.row (some ⟨b, 0, none⟩) cap e 1 (s.map fun b => [Value.int .u8 (b.toNat : Int)]) :: H)) :
    WL P ro n w0 ops Q (⟨some d, .convert src dst x, ty, pos, after, none⟩ :: l) r ds m H := by
  refine .gen (fun v m' H' => ∃ b cap, v = .slice (some ⟨b, 0, none⟩) s.length cap ∧ m' = m ∧ H' = .row (some ⟨b, 0, none⟩) cap e 1 (s.map fun b => [Value.int .u8 (b.toNat : Int)]) :: H) hd (fun _ h => by cases h) (fun tmps w ho hs => ?_)
    (by rintro _ _ _ ⟨b, cap, rfl, rfl, rfl⟩; exact h b cap)
  obtain ⟨us, hus⟩ := Option.isSome_iff_exists.1 hs1
  have hrun := Go.Lib.run_convert_string_bytes (P := P) w src dst e ⟨s.toArray⟩ hus hs2 hs3
  have hsz : (⟨s.toArray⟩ : ByteArray).size = s.length := ofNat_toArray s
  rw [hsz] at hrun
  have hge : s.length ≤ grownCap w s.length 0 e := grownCap_ge w s.length 0 e
  have hcs : (Go.Lib.bytesCells w e ⟨s.toArray⟩).size = grownCap w s.length 0 e := by
    simp only [Go.Lib.bytesCells, hsz, Array.size_append, Array.size_map, List.size_toArray, Array.size_replicate]; omega
  have hk : Sat w0 m H (Go.Lib.bytesWorld w e ⟨s.toArray⟩) := hs.keep rfl rfl rfl (by rw [Go.Lib.bytesWorld_size]; omega) (fun b hb => Go.Lib.bytesWorld_at_old w e _ b hb)
  refine ⟨.slice (some ⟨w.heap.size, 0, none⟩) s.length (grownCap w s.length 0 e), m, _, Go.Lib.bytesWorld w e ⟨s.toArray⟩, ?_, ?_, w.heap.size, grownCap w s.length 0 e, rfl, rfl, rfl⟩
  · show (execOp _ _).run P w = _
    simp only [execOp, ho.ev hx, Sem.run_bind]
    rw [show (str s) = Value.string ⟨s.toArray⟩ from rfl, hrun]
    rfl
  · refine ⟨hk.os, hk.tape, hk.output, hk.size, hk.pers, fun i hi => ?_, ?_, fun b hb => ?_⟩
    · cases hi with
      | head =>
        refine ⟨_, _, rfl, Go.Lib.bytesWorld_at_new w e _, by simpa using hcs, by simpa using hge, ?_, by simp, .inr (Nat.le_refl _), fun hq => grownCap_le w (by simpa using hq) 0 e⟩
        have : (s.map fun b => [Value.int .u8 (b.toNat : Int)]).flatten = s.map fun b => Value.int .u8 (b.toNat : Int) := flatten_single _ s
        rw [this]
        simp [Go.Lib.bytesCells]
      | tail _ hi => exact hk.own i hi
    · simp only [SHeap.foot, List.flatMap_cons, Item.foot, List.singleton_append, List.nodup_cons]
      exact ⟨fun hb => absurd (hs.foot_lt _ hb) (Nat.lt_irrefl _), hs.sep⟩
    · simp only [SHeap.foot, List.flatMap_cons, Item.foot, List.singleton_append, List.mem_cons] at hb
      rcases hb with rfl | hb
      · cases hm : m w.heap.size with
        | none => rfl
        | some o' => exact absurd (Array.getElem?_eq_some_iff.1 (hs.pers _ _ hm)).1 (Nat.lt_irrefl _)
      · exact hs.free b hb
section scope
variable {b : Frame} {a : Act} {k : List Go.Item} {cs : List Frame} {w : World}
theorem stepR_scope {c : Code} : step P (lone (b.atR a (.code (.scope c) :: k)) cs w) = .next (lone (b.atR a (.code c :: .inScope c :: k)) cs w) :=
  step_lone_go (by simp [stepG, stepG.exec, Frame.atR])
theorem stepR_inScope {c : Code} : step P (lone (b.atR a (.inScope c :: k)) cs w) = .next (lone (b.atR a k) cs w) :=
  step_lone_go (by simp [stepG, stepG.exec, Frame.atR])
theorem wpIn_scope {F : Fence} {n : Nat} {c : Code} (h : c.wpIn F n P (Exit.noGoto Q) a w) : (Code.scope c).wpIn F n P Q a w := by
  intro b k cs hro hb hr
  have h0 : (lone (b.atR a (.code (.scope c) :: k)) cs w).fenced P F := fenced_calm hb hr rfl
  obtain ⟨e, a₁, w₁, hq, harr⟩ := h b (.inScope c :: k) cs hro hb hr
  cases e with
  | normal => exact ⟨.normal, a₁, w₁, hq, .head h0 stepR_scope (StepsIn.trans harr (.one (fenced_calm hb hr rfl) stepR_inScope))⟩
  | exit id =>
    have hx : exitTo id (.inScope c :: k) = exitTo id k := by simp [exitTo]
    exact ⟨.exit id, a₁, w₁, hq, fun k' hk => .head h0 stepR_scope (harr.1 k' (by rw [hx]; exact hk)),
      fun hr' hk => let ⟨k₁, h1, h2⟩ := harr.2 hr' (by rw [hx]; exact hk); ⟨k₁, h1, .head h0 stepR_scope h2⟩⟩
  | goto l => exact hq.elim
  | ret => exact ⟨_, a₁, w₁, hq, .of_steps (.one h0 stepR_scope) harr⟩
  | panic ch => exact ⟨_, a₁, w₁, hq, .of_steps (.one h0 stepR_scope) harr⟩
  | outgrown => exact ⟨_, a₁, w₁, hq, .of_steps (.one h0 stepR_scope) harr⟩
end scope
theorem WC.scope {c : Code} (h : WC P ro n w0 c (Exit.noGoto Q) r ds m H) : WC P ro n w0 (.scope c) Q r ds m H := fun tmps w ho hs => wpIn_scope (h tmps w ho hs)
theorem WC.label {id : Nat} (h : WQ n w0 Q .normal r ds m H) : WC P ro n w0 (.label id) Q r ds m H := fun tmps w ho hs => wpIn_label (h tmps w ho hs)
theorem WQ.scopeNorm (h : WQ n w0 Q .normal r ds m H) : WQ n w0 (Exit.noGoto Q) .normal r ds m H := h
theorem WQ.scopeRet (h : WQ n w0 Q .ret r ds m H) : WQ n w0 (Exit.noGoto Q) .ret r ds m H := h
theorem WQ.scopeExit {id : Nat} (h : WQ n w0 Q (.exit id) r ds m H) : WQ n w0 (Exit.noGoto Q) (.exit id) r ds m H := h
end
end Go.Eng

/-
  A walk's engine, thirteenth part: many steps at once. No condition.
-/
set_option linter.all false
namespace Go.Eng
open Go Go.RowKit
set_option maxRecDepth 100000
section
variable {P : Program} {ro : Option Nat} {n : Nat} {w0 : World} {Q : Exit → Act → World → Prop} {r : Env} {ds : List Nat} {m : Mem} {H : SHeap} {ops : Array Oper} {l : List Oper}
  {dst : Option Nat} {op : Op} {ty : TypeId} {pos : String} {after : Array Edge} {c : Code} {e : Exit}
theorem iWL (h : WL P ro n w0 ops Q l r ds m H) : WL P ro n w0 ops Q l r ds m H := h
theorem iWC (h : WC P ro n w0 c Q r ds m H) : WC P ro n w0 c Q r ds m H := h
theorem iWQ (h : WQ n w0 Q e r ds m H) : WQ n w0 Q e r ds m H := h
theorem iDraw {id : Nat} {lo : List Oper} (h : WC P ro n w0 (.region id lo.toArray true) Q r ds m H) : WC P ro n w0 (.region id lo.toArray true) Q r ds m H := h
theorem iN (h : WL P ro n w0 ops Q (⟨dst, op, ty, pos, after, none⟩ :: l) r ds m H) : WL P ro n w0 ops Q (⟨dst, op, ty, pos, after, none⟩ :: l) r ds m H := h
theorem iG {g : Nat × Bool} (h : WL P ro n w0 ops Q (⟨dst, op, ty, pos, after, some g⟩ :: l) r ds m H) : WL P ro n w0 ops Q (⟨dst, op, ty, pos, after, some g⟩ :: l) r ds m H := h
def isF (f : Nat) : Op → Bool
  | .call ⟨.value (.func g), _, _⟩ => Nat.beq g f
  | _ => false
theorem iF (f : Nat) (_hk : isF f op = true) (h : WL P ro n w0 ops Q (⟨dst, op, ty, pos, after, none⟩ :: l) r ds m H) : WL P ro n w0 ops Q (⟨dst, op, ty, pos, after, none⟩ :: l) r ds m H := h
def isConv : Op → Bool
  | .convert .. => true
  | _ => false
theorem iConv (_hk : isConv op = true) (h : WL P ro n w0 ops Q (⟨dst, op, ty, pos, after, none⟩ :: l) r ds m H) : WL P ro n w0 ops Q (⟨dst, op, ty, pos, after, none⟩ :: l) r ds m H := h
def isApp : Op → Bool
  | .call ⟨.builtin .append, _, _⟩ => true
  | _ => false
def isEq : Op → Bool
  | .binOp .eql .. => true
  | _ => false
def isNe : Op → Bool
  | .binOp .neq .. => true
  | _ => false
theorem iB_eql (_hk : isEq op = true) (h : WL P ro n w0 ops Q (⟨dst, op, ty, pos, after, none⟩ :: l) r ds m H) : WL P ro n w0 ops Q (⟨dst, op, ty, pos, after, none⟩ :: l) r ds m H := h
theorem iB_neq (_hk : isNe op = true) (h : WL P ro n w0 ops Q (⟨dst, op, ty, pos, after, none⟩ :: l) r ds m H) : WL P ro n w0 ops Q (⟨dst, op, ty, pos, after, none⟩ :: l) r ds m H := h
def clsA : Op → Bool
  | .move _ | .assign _ | .extract _ _ | .field _ _ _ => true
  | _ => false
theorem iA (_hk : clsA op = true) (h : WL P ro n w0 ops Q (⟨dst, op, ty, pos, after, none⟩ :: l) r ds m H) : WL P ro n w0 ops Q (⟨dst, op, ty, pos, after, none⟩ :: l) r ds m H := h
def clsB : Op → Bool
  | .binOp _ _ _ _ _ | .unOp _ _ _ | .convert _ _ _ | .pick _ _ _ => true
  | _ => false
theorem iB (_hk : clsB op = true) (h : WL P ro n w0 ops Q (⟨dst, op, ty, pos, after, none⟩ :: l) r ds m H) : WL P ro n w0 ops Q (⟨dst, op, ty, pos, after, none⟩ :: l) r ds m H := h
def clsC : Op → Bool
  | .load _ _ | .fieldAddr _ _ _ | .indexAddr _ _ _ | .store _ _ _ | .alloc _ | .box _ _ | .nilCheck _ => true
  | _ => false
theorem iC (_hk : clsC op = true) (h : WL P ro n w0 ops Q (⟨dst, op, ty, pos, after, none⟩ :: l) r ds m H) : WL P ro n w0 ops Q (⟨dst, op, ty, pos, after, none⟩ :: l) r ds m H := h
def clsD (op : Op) : Bool := !(clsA op || clsB op || clsC op)
theorem iD (_hk : clsD op = true) (h : WL P ro n w0 ops Q (⟨dst, op, ty, pos, after, none⟩ :: l) r ds m H) : WL P ro n w0 ops Q (⟨dst, op, ty, pos, after, none⟩ :: l) r ds m H := h
end
def kK1 : Op → Bool
  | .move .. => true
  | _ => false
section
variable {P : Program} {ro : Option Nat} {n : Nat} {w0 : World} {Q : Exit → Act → World → Prop} {r : Env} {ds : List Nat} {m : Mem} {H : SHeap} {ops : Array Oper} {l : List Oper} {dst : Option Nat} {op : Op} {ty : TypeId} {pos : String} {after : Array Edge}
theorem iK1 (_hk : kK1 op = true) (h : WL P ro n w0 ops Q (⟨dst, op, ty, pos, after, none⟩ :: l) r ds m H) : WL P ro n w0 ops Q (⟨dst, op, ty, pos, after, none⟩ :: l) r ds m H := h
end
def kK2 : Op → Bool
  | .assign .. => true
  | _ => false
section
variable {P : Program} {ro : Option Nat} {n : Nat} {w0 : World} {Q : Exit → Act → World → Prop} {r : Env} {ds : List Nat} {m : Mem} {H : SHeap} {ops : Array Oper} {l : List Oper} {dst : Option Nat} {op : Op} {ty : TypeId} {pos : String} {after : Array Edge}
theorem iK2 (_hk : kK2 op = true) (h : WL P ro n w0 ops Q (⟨dst, op, ty, pos, after, none⟩ :: l) r ds m H) : WL P ro n w0 ops Q (⟨dst, op, ty, pos, after, none⟩ :: l) r ds m H := h
end
def kK3 : Op → Bool
  | .extract .. => true
  | _ => false
section
variable {P : Program} {ro : Option Nat} {n : Nat} {w0 : World} {Q : Exit → Act → World → Prop} {r : Env} {ds : List Nat} {m : Mem} {H : SHeap} {ops : Array Oper} {l : List Oper} {dst : Option Nat} {op : Op} {ty : TypeId} {pos : String} {after : Array Edge}
theorem iK3 (_hk : kK3 op = true) (h : WL P ro n w0 ops Q (⟨dst, op, ty, pos, after, none⟩ :: l) r ds m H) : WL P ro n w0 ops Q (⟨dst, op, ty, pos, after, none⟩ :: l) r ds m H := h
end
def kK4 : Op → Bool
  | .field .. => true
  | _ => false
section
variable {P : Program} {ro : Option Nat} {n : Nat} {w0 : World} {Q : Exit → Act → World → Prop} {r : Env} {ds : List Nat} {m : Mem} {H : SHeap} {ops : Array Oper} {l : List Oper} {dst : Option Nat} {op : Op} {ty : TypeId} {pos : String} {after : Array Edge}
theorem iK4 (_hk : kK4 op = true) (h : WL P ro n w0 ops Q (⟨dst, op, ty, pos, after, none⟩ :: l) r ds m H) : WL P ro n w0 ops Q (⟨dst, op, ty, pos, after, none⟩ :: l) r ds m H := h
end
def kK5 : Op → Bool
  | .binOp .lss .. => true
  | _ => false
section
variable {P : Program} {ro : Option Nat} {n : Nat} {w0 : World} {Q : Exit → Act → World → Prop} {r : Env} {ds : List Nat} {m : Mem} {H : SHeap} {ops : Array Oper} {l : List Oper} {dst : Option Nat} {op : Op} {ty : TypeId} {pos : String} {after : Array Edge}
theorem iK5 (_hk : kK5 op = true) (h : WL P ro n w0 ops Q (⟨dst, op, ty, pos, after, none⟩ :: l) r ds m H) : WL P ro n w0 ops Q (⟨dst, op, ty, pos, after, none⟩ :: l) r ds m H := h
end
def kK6 : Op → Bool
  | .binOp .leq .. => true
  | _ => false
section
variable {P : Program} {ro : Option Nat} {n : Nat} {w0 : World} {Q : Exit → Act → World → Prop} {r : Env} {ds : List Nat} {m : Mem} {H : SHeap} {ops : Array Oper} {l : List Oper} {dst : Option Nat} {op : Op} {ty : TypeId} {pos : String} {after : Array Edge}
theorem iK6 (_hk : kK6 op = true) (h : WL P ro n w0 ops Q (⟨dst, op, ty, pos, after, none⟩ :: l) r ds m H) : WL P ro n w0 ops Q (⟨dst, op, ty, pos, after, none⟩ :: l) r ds m H := h
end
def kK7 : Op → Bool
  | .binOp .gtr .. => true
  | _ => false
section
variable {P : Program} {ro : Option Nat} {n : Nat} {w0 : World} {Q : Exit → Act → World → Prop} {r : Env} {ds : List Nat} {m : Mem} {H : SHeap} {ops : Array Oper} {l : List Oper} {dst : Option Nat} {op : Op} {ty : TypeId} {pos : String} {after : Array Edge}
theorem iK7 (_hk : kK7 op = true) (h : WL P ro n w0 ops Q (⟨dst, op, ty, pos, after, none⟩ :: l) r ds m H) : WL P ro n w0 ops Q (⟨dst, op, ty, pos, after, none⟩ :: l) r ds m H := h
end
def kK8 : Op → Bool
  | .binOp .geq .. => true
  | _ => false
section
variable {P : Program} {ro : Option Nat} {n : Nat} {w0 : World} {Q : Exit → Act → World → Prop} {r : Env} {ds : List Nat} {m : Mem} {H : SHeap} {ops : Array Oper} {l : List Oper} {dst : Option Nat} {op : Op} {ty : TypeId} {pos : String} {after : Array Edge}
theorem iK8 (_hk : kK8 op = true) (h : WL P ro n w0 ops Q (⟨dst, op, ty, pos, after, none⟩ :: l) r ds m H) : WL P ro n w0 ops Q (⟨dst, op, ty, pos, after, none⟩ :: l) r ds m H := h
end
def kK9 : Op → Bool
  | .binOp .eql .. => true
  | _ => false
section
variable {P : Program} {ro : Option Nat} {n : Nat} {w0 : World} {Q : Exit → Act → World → Prop} {r : Env} {ds : List Nat} {m : Mem} {H : SHeap} {ops : Array Oper} {l : List Oper} {dst : Option Nat} {op : Op} {ty : TypeId} {pos : String} {after : Array Edge}
theorem iK9 (_hk : kK9 op = true) (h : WL P ro n w0 ops Q (⟨dst, op, ty, pos, after, none⟩ :: l) r ds m H) : WL P ro n w0 ops Q (⟨dst, op, ty, pos, after, none⟩ :: l) r ds m H := h
end
def kK10 : Op → Bool
  | .binOp .neq .. => true
  | _ => false
section
variable {P : Program} {ro : Option Nat} {n : Nat} {w0 : World} {Q : Exit → Act → World → Prop} {r : Env} {ds : List Nat} {m : Mem} {H : SHeap} {ops : Array Oper} {l : List Oper} {dst : Option Nat} {op : Op} {ty : TypeId} {pos : String} {after : Array Edge}
theorem iK10 (_hk : kK10 op = true) (h : WL P ro n w0 ops Q (⟨dst, op, ty, pos, after, none⟩ :: l) r ds m H) : WL P ro n w0 ops Q (⟨dst, op, ty, pos, after, none⟩ :: l) r ds m H := h
end
def kK11 : Op → Bool
  | .binOp .add .. => true
  | _ => false
section
variable {P : Program} {ro : Option Nat} {n : Nat} {w0 : World} {Q : Exit → Act → World → Prop} {r : Env} {ds : List Nat} {m : Mem} {H : SHeap} {ops : Array Oper} {l : List Oper} {dst : Option Nat} {op : Op} {ty : TypeId} {pos : String} {after : Array Edge}
theorem iK11 (_hk : kK11 op = true) (h : WL P ro n w0 ops Q (⟨dst, op, ty, pos, after, none⟩ :: l) r ds m H) : WL P ro n w0 ops Q (⟨dst, op, ty, pos, after, none⟩ :: l) r ds m H := h
end
def kK12 : Op → Bool
  | .binOp .sub .. => true
  | _ => false
section
variable {P : Program} {ro : Option Nat} {n : Nat} {w0 : World} {Q : Exit → Act → World → Prop} {r : Env} {ds : List Nat} {m : Mem} {H : SHeap} {ops : Array Oper} {l : List Oper} {dst : Option Nat} {op : Op} {ty : TypeId} {pos : String} {after : Array Edge}
theorem iK12 (_hk : kK12 op = true) (h : WL P ro n w0 ops Q (⟨dst, op, ty, pos, after, none⟩ :: l) r ds m H) : WL P ro n w0 ops Q (⟨dst, op, ty, pos, after, none⟩ :: l) r ds m H := h
end
def kK13 : Op → Bool
  | .binOp .mul .. => true
  | _ => false
section
variable {P : Program} {ro : Option Nat} {n : Nat} {w0 : World} {Q : Exit → Act → World → Prop} {r : Env} {ds : List Nat} {m : Mem} {H : SHeap} {ops : Array Oper} {l : List Oper} {dst : Option Nat} {op : Op} {ty : TypeId} {pos : String} {after : Array Edge}
theorem iK13 (_hk : kK13 op = true) (h : WL P ro n w0 ops Q (⟨dst, op, ty, pos, after, none⟩ :: l) r ds m H) : WL P ro n w0 ops Q (⟨dst, op, ty, pos, after, none⟩ :: l) r ds m H := h
end
def kK14 : Op → Bool
  | .binOp .quo .. => true
  | _ => false
section
variable {P : Program} {ro : Option Nat} {n : Nat} {w0 : World} {Q : Exit → Act → World → Prop} {r : Env} {ds : List Nat} {m : Mem} {H : SHeap} {ops : Array Oper} {l : List Oper} {dst : Option Nat} {op : Op} {ty : TypeId} {pos : String} {after : Array Edge}
theorem iK14 (_hk : kK14 op = true) (h : WL P ro n w0 ops Q (⟨dst, op, ty, pos, after, none⟩ :: l) r ds m H) : WL P ro n w0 ops Q (⟨dst, op, ty, pos, after, none⟩ :: l) r ds m H := h
end
def kK15 : Op → Bool
  | .binOp .rem .. => true
  | _ => false
section
variable {P : Program} {ro : Option Nat} {n : Nat} {w0 : World} {Q : Exit → Act → World → Prop} {r : Env} {ds : List Nat} {m : Mem} {H : SHeap} {ops : Array Oper} {l : List Oper} {dst : Option Nat} {op : Op} {ty : TypeId} {pos : String} {after : Array Edge}
theorem iK15 (_hk : kK15 op = true) (h : WL P ro n w0 ops Q (⟨dst, op, ty, pos, after, none⟩ :: l) r ds m H) : WL P ro n w0 ops Q (⟨dst, op, ty, pos, after, none⟩ :: l) r ds m H := h
end
def kK16 : Op → Bool
  | .binOp .shl .. => true
  | _ => false
section
variable {P : Program} {ro : Option Nat} {n : Nat} {w0 : World} {Q : Exit → Act → World → Prop} {r : Env} {ds : List Nat} {m : Mem} {H : SHeap} {ops : Array Oper} {l : List Oper} {dst : Option Nat} {op : Op} {ty : TypeId} {pos : String} {after : Array Edge}
theorem iK16 (_hk : kK16 op = true) (h : WL P ro n w0 ops Q (⟨dst, op, ty, pos, after, none⟩ :: l) r ds m H) : WL P ro n w0 ops Q (⟨dst, op, ty, pos, after, none⟩ :: l) r ds m H := h
end
def kK17 : Op → Bool
  | .binOp .shr .. => true
  | _ => false
section
variable {P : Program} {ro : Option Nat} {n : Nat} {w0 : World} {Q : Exit → Act → World → Prop} {r : Env} {ds : List Nat} {m : Mem} {H : SHeap} {ops : Array Oper} {l : List Oper} {dst : Option Nat} {op : Op} {ty : TypeId} {pos : String} {after : Array Edge}
theorem iK17 (_hk : kK17 op = true) (h : WL P ro n w0 ops Q (⟨dst, op, ty, pos, after, none⟩ :: l) r ds m H) : WL P ro n w0 ops Q (⟨dst, op, ty, pos, after, none⟩ :: l) r ds m H := h
end
def kK18 : Op → Bool
  | .binOp .and .. => true
  | _ => false
section
variable {P : Program} {ro : Option Nat} {n : Nat} {w0 : World} {Q : Exit → Act → World → Prop} {r : Env} {ds : List Nat} {m : Mem} {H : SHeap} {ops : Array Oper} {l : List Oper} {dst : Option Nat} {op : Op} {ty : TypeId} {pos : String} {after : Array Edge}
theorem iK18 (_hk : kK18 op = true) (h : WL P ro n w0 ops Q (⟨dst, op, ty, pos, after, none⟩ :: l) r ds m H) : WL P ro n w0 ops Q (⟨dst, op, ty, pos, after, none⟩ :: l) r ds m H := h
end
def kK19 : Op → Bool
  | .binOp .or .. => true
  | _ => false
section
variable {P : Program} {ro : Option Nat} {n : Nat} {w0 : World} {Q : Exit → Act → World → Prop} {r : Env} {ds : List Nat} {m : Mem} {H : SHeap} {ops : Array Oper} {l : List Oper} {dst : Option Nat} {op : Op} {ty : TypeId} {pos : String} {after : Array Edge}
theorem iK19 (_hk : kK19 op = true) (h : WL P ro n w0 ops Q (⟨dst, op, ty, pos, after, none⟩ :: l) r ds m H) : WL P ro n w0 ops Q (⟨dst, op, ty, pos, after, none⟩ :: l) r ds m H := h
end
def kK20 : Op → Bool
  | .unOp .not .. => true
  | _ => false
section
variable {P : Program} {ro : Option Nat} {n : Nat} {w0 : World} {Q : Exit → Act → World → Prop} {r : Env} {ds : List Nat} {m : Mem} {H : SHeap} {ops : Array Oper} {l : List Oper} {dst : Option Nat} {op : Op} {ty : TypeId} {pos : String} {after : Array Edge}
theorem iK20 (_hk : kK20 op = true) (h : WL P ro n w0 ops Q (⟨dst, op, ty, pos, after, none⟩ :: l) r ds m H) : WL P ro n w0 ops Q (⟨dst, op, ty, pos, after, none⟩ :: l) r ds m H := h
end
def kK21 : Op → Bool
  | .unOp .neg .. => true
  | _ => false
section
variable {P : Program} {ro : Option Nat} {n : Nat} {w0 : World} {Q : Exit → Act → World → Prop} {r : Env} {ds : List Nat} {m : Mem} {H : SHeap} {ops : Array Oper} {l : List Oper} {dst : Option Nat} {op : Op} {ty : TypeId} {pos : String} {after : Array Edge}
theorem iK21 (_hk : kK21 op = true) (h : WL P ro n w0 ops Q (⟨dst, op, ty, pos, after, none⟩ :: l) r ds m H) : WL P ro n w0 ops Q (⟨dst, op, ty, pos, after, none⟩ :: l) r ds m H := h
end
def kK22 : Op → Bool
  | .convert .. => true
  | _ => false
section
variable {P : Program} {ro : Option Nat} {n : Nat} {w0 : World} {Q : Exit → Act → World → Prop} {r : Env} {ds : List Nat} {m : Mem} {H : SHeap} {ops : Array Oper} {l : List Oper} {dst : Option Nat} {op : Op} {ty : TypeId} {pos : String} {after : Array Edge}
theorem iK22 (_hk : kK22 op = true) (h : WL P ro n w0 ops Q (⟨dst, op, ty, pos, after, none⟩ :: l) r ds m H) : WL P ro n w0 ops Q (⟨dst, op, ty, pos, after, none⟩ :: l) r ds m H := h
end
def kK23 : Op → Bool
  | .pick .. => true
  | _ => false
section
variable {P : Program} {ro : Option Nat} {n : Nat} {w0 : World} {Q : Exit → Act → World → Prop} {r : Env} {ds : List Nat} {m : Mem} {H : SHeap} {ops : Array Oper} {l : List Oper} {dst : Option Nat} {op : Op} {ty : TypeId} {pos : String} {after : Array Edge}
theorem iK23 (_hk : kK23 op = true) (h : WL P ro n w0 ops Q (⟨dst, op, ty, pos, after, none⟩ :: l) r ds m H) : WL P ro n w0 ops Q (⟨dst, op, ty, pos, after, none⟩ :: l) r ds m H := h
end
def kK24 : Op → Bool
  | .load .. => true
  | _ => false
section
variable {P : Program} {ro : Option Nat} {n : Nat} {w0 : World} {Q : Exit → Act → World → Prop} {r : Env} {ds : List Nat} {m : Mem} {H : SHeap} {ops : Array Oper} {l : List Oper} {dst : Option Nat} {op : Op} {ty : TypeId} {pos : String} {after : Array Edge}
theorem iK24 (_hk : kK24 op = true) (h : WL P ro n w0 ops Q (⟨dst, op, ty, pos, after, none⟩ :: l) r ds m H) : WL P ro n w0 ops Q (⟨dst, op, ty, pos, after, none⟩ :: l) r ds m H := h
end
def kK25 : Op → Bool
  | .fieldAddr .. => true
  | _ => false
section
variable {P : Program} {ro : Option Nat} {n : Nat} {w0 : World} {Q : Exit → Act → World → Prop} {r : Env} {ds : List Nat} {m : Mem} {H : SHeap} {ops : Array Oper} {l : List Oper} {dst : Option Nat} {op : Op} {ty : TypeId} {pos : String} {after : Array Edge}
theorem iK25 (_hk : kK25 op = true) (h : WL P ro n w0 ops Q (⟨dst, op, ty, pos, after, none⟩ :: l) r ds m H) : WL P ro n w0 ops Q (⟨dst, op, ty, pos, after, none⟩ :: l) r ds m H := h
end
def kK26 : Op → Bool
  | .indexAddr .. => true
  | _ => false
section
variable {P : Program} {ro : Option Nat} {n : Nat} {w0 : World} {Q : Exit → Act → World → Prop} {r : Env} {ds : List Nat} {m : Mem} {H : SHeap} {ops : Array Oper} {l : List Oper} {dst : Option Nat} {op : Op} {ty : TypeId} {pos : String} {after : Array Edge}
theorem iK26 (_hk : kK26 op = true) (h : WL P ro n w0 ops Q (⟨dst, op, ty, pos, after, none⟩ :: l) r ds m H) : WL P ro n w0 ops Q (⟨dst, op, ty, pos, after, none⟩ :: l) r ds m H := h
end
def kK27 : Op → Bool
  | .store .. => true
  | _ => false
section
variable {P : Program} {ro : Option Nat} {n : Nat} {w0 : World} {Q : Exit → Act → World → Prop} {r : Env} {ds : List Nat} {m : Mem} {H : SHeap} {ops : Array Oper} {l : List Oper} {dst : Option Nat} {op : Op} {ty : TypeId} {pos : String} {after : Array Edge}
theorem iK27 (_hk : kK27 op = true) (h : WL P ro n w0 ops Q (⟨dst, op, ty, pos, after, none⟩ :: l) r ds m H) : WL P ro n w0 ops Q (⟨dst, op, ty, pos, after, none⟩ :: l) r ds m H := h
end
def kK28 : Op → Bool
  | .alloc .. => true
  | _ => false
section
variable {P : Program} {ro : Option Nat} {n : Nat} {w0 : World} {Q : Exit → Act → World → Prop} {r : Env} {ds : List Nat} {m : Mem} {H : SHeap} {ops : Array Oper} {l : List Oper} {dst : Option Nat} {op : Op} {ty : TypeId} {pos : String} {after : Array Edge}
theorem iK28 (_hk : kK28 op = true) (h : WL P ro n w0 ops Q (⟨dst, op, ty, pos, after, none⟩ :: l) r ds m H) : WL P ro n w0 ops Q (⟨dst, op, ty, pos, after, none⟩ :: l) r ds m H := h
end
def kK29 : Op → Bool
  | .box .. => true
  | _ => false
section
variable {P : Program} {ro : Option Nat} {n : Nat} {w0 : World} {Q : Exit → Act → World → Prop} {r : Env} {ds : List Nat} {m : Mem} {H : SHeap} {ops : Array Oper} {l : List Oper} {dst : Option Nat} {op : Op} {ty : TypeId} {pos : String} {after : Array Edge}
theorem iK29 (_hk : kK29 op = true) (h : WL P ro n w0 ops Q (⟨dst, op, ty, pos, after, none⟩ :: l) r ds m H) : WL P ro n w0 ops Q (⟨dst, op, ty, pos, after, none⟩ :: l) r ds m H := h
end
def kK30 : Op → Bool
  | .nilCheck .. => true
  | _ => false
section
variable {P : Program} {ro : Option Nat} {n : Nat} {w0 : World} {Q : Exit → Act → World → Prop} {r : Env} {ds : List Nat} {m : Mem} {H : SHeap} {ops : Array Oper} {l : List Oper} {dst : Option Nat} {op : Op} {ty : TypeId} {pos : String} {after : Array Edge}
theorem iK30 (_hk : kK30 op = true) (h : WL P ro n w0 ops Q (⟨dst, op, ty, pos, after, none⟩ :: l) r ds m H) : WL P ro n w0 ops Q (⟨dst, op, ty, pos, after, none⟩ :: l) r ds m H := h
end
def kK31 : Op → Bool
  | .call ⟨.builtin .min, _, _⟩ => true
  | _ => false
section
variable {P : Program} {ro : Option Nat} {n : Nat} {w0 : World} {Q : Exit → Act → World → Prop} {r : Env} {ds : List Nat} {m : Mem} {H : SHeap} {ops : Array Oper} {l : List Oper} {dst : Option Nat} {op : Op} {ty : TypeId} {pos : String} {after : Array Edge}
theorem iK31 (_hk : kK31 op = true) (h : WL P ro n w0 ops Q (⟨dst, op, ty, pos, after, none⟩ :: l) r ds m H) : WL P ro n w0 ops Q (⟨dst, op, ty, pos, after, none⟩ :: l) r ds m H := h
end
def kK32 : Op → Bool
  | .call ⟨.builtin .max, _, _⟩ => true
  | _ => false
section
variable {P : Program} {ro : Option Nat} {n : Nat} {w0 : World} {Q : Exit → Act → World → Prop} {r : Env} {ds : List Nat} {m : Mem} {H : SHeap} {ops : Array Oper} {l : List Oper} {dst : Option Nat} {op : Op} {ty : TypeId} {pos : String} {after : Array Edge}
theorem iK32 (_hk : kK32 op = true) (h : WL P ro n w0 ops Q (⟨dst, op, ty, pos, after, none⟩ :: l) r ds m H) : WL P ro n w0 ops Q (⟨dst, op, ty, pos, after, none⟩ :: l) r ds m H := h
end
def kK33 : Op → Bool
  | .call ⟨.builtin .len, _, _⟩ => true
  | _ => false
section
variable {P : Program} {ro : Option Nat} {n : Nat} {w0 : World} {Q : Exit → Act → World → Prop} {r : Env} {ds : List Nat} {m : Mem} {H : SHeap} {ops : Array Oper} {l : List Oper} {dst : Option Nat} {op : Op} {ty : TypeId} {pos : String} {after : Array Edge}
theorem iK33 (_hk : kK33 op = true) (h : WL P ro n w0 ops Q (⟨dst, op, ty, pos, after, none⟩ :: l) r ds m H) : WL P ro n w0 ops Q (⟨dst, op, ty, pos, after, none⟩ :: l) r ds m H := h
end
def kK34 : Op → Bool
  | .index .. => true
  | _ => false
section
variable {P : Program} {ro : Option Nat} {n : Nat} {w0 : World} {Q : Exit → Act → World → Prop} {r : Env} {ds : List Nat} {m : Mem} {H : SHeap} {ops : Array Oper} {l : List Oper} {dst : Option Nat} {op : Op} {ty : TypeId} {pos : String} {after : Array Edge}
theorem iK34 (_hk : kK34 op = true) (h : WL P ro n w0 ops Q (⟨dst, op, ty, pos, after, none⟩ :: l) r ds m H) : WL P ro n w0 ops Q (⟨dst, op, ty, pos, after, none⟩ :: l) r ds m H := h
end
def kK35 : Op → Bool
  | .slice .. => true
  | _ => false
section
variable {P : Program} {ro : Option Nat} {n : Nat} {w0 : World} {Q : Exit → Act → World → Prop} {r : Env} {ds : List Nat} {m : Mem} {H : SHeap} {ops : Array Oper} {l : List Oper} {dst : Option Nat} {op : Op} {ty : TypeId} {pos : String} {after : Array Edge}
theorem iK35 (_hk : kK35 op = true) (h : WL P ro n w0 ops Q (⟨dst, op, ty, pos, after, none⟩ :: l) r ds m H) : WL P ro n w0 ops Q (⟨dst, op, ty, pos, after, none⟩ :: l) r ds m H := h
end
def kK36 : Op → Bool
  | .makeFunc .. => true
  | _ => false
section
variable {P : Program} {ro : Option Nat} {n : Nat} {w0 : World} {Q : Exit → Act → World → Prop} {r : Env} {ds : List Nat} {m : Mem} {H : SHeap} {ops : Array Oper} {l : List Oper} {dst : Option Nat} {op : Op} {ty : TypeId} {pos : String} {after : Array Edge}
theorem iK36 (_hk : kK36 op = true) (h : WL P ro n w0 ops Q (⟨dst, op, ty, pos, after, none⟩ :: l) r ds m H) : WL P ro n w0 ops Q (⟨dst, op, ty, pos, after, none⟩ :: l) r ds m H := h
end
def kK37 : Op → Bool
  | .makeInterface .. => true
  | _ => false
section
variable {P : Program} {ro : Option Nat} {n : Nat} {w0 : World} {Q : Exit → Act → World → Prop} {r : Env} {ds : List Nat} {m : Mem} {H : SHeap} {ops : Array Oper} {l : List Oper} {dst : Option Nat} {op : Op} {ty : TypeId} {pos : String} {after : Array Edge}
theorem iK37 (_hk : kK37 op = true) (h : WL P ro n w0 ops Q (⟨dst, op, ty, pos, after, none⟩ :: l) r ds m H) : WL P ro n w0 ops Q (⟨dst, op, ty, pos, after, none⟩ :: l) r ds m H := h
end
def kK38 : Op → Bool
  | .build .. => true
  | _ => false
section
variable {P : Program} {ro : Option Nat} {n : Nat} {w0 : World} {Q : Exit → Act → World → Prop} {r : Env} {ds : List Nat} {m : Mem} {H : SHeap} {ops : Array Oper} {l : List Oper} {dst : Option Nat} {op : Op} {ty : TypeId} {pos : String} {after : Array Edge}
theorem iK38 (_hk : kK38 op = true) (h : WL P ro n w0 ops Q (⟨dst, op, ty, pos, after, none⟩ :: l) r ds m H) : WL P ro n w0 ops Q (⟨dst, op, ty, pos, after, none⟩ :: l) r ds m H := h
end
def kK39 : Op → Bool
  | .buildSlice .. => true
  | _ => false
section
variable {P : Program} {ro : Option Nat} {n : Nat} {w0 : World} {Q : Exit → Act → World → Prop} {r : Env} {ds : List Nat} {m : Mem} {H : SHeap} {ops : Array Oper} {l : List Oper} {dst : Option Nat} {op : Op} {ty : TypeId} {pos : String} {after : Array Edge}
theorem iK39 (_hk : kK39 op = true) (h : WL P ro n w0 ops Q (⟨dst, op, ty, pos, after, none⟩ :: l) r ds m H) : WL P ro n w0 ops Q (⟨dst, op, ty, pos, after, none⟩ :: l) r ds m H := h
end
def kK40 : Op → Bool
  | .makeSlice .. => true
  | _ => false
section
variable {P : Program} {ro : Option Nat} {n : Nat} {w0 : World} {Q : Exit → Act → World → Prop} {r : Env} {ds : List Nat} {m : Mem} {H : SHeap} {ops : Array Oper} {l : List Oper} {dst : Option Nat} {op : Op} {ty : TypeId} {pos : String} {after : Array Edge}
theorem iK40 (_hk : kK40 op = true) (h : WL P ro n w0 ops Q (⟨dst, op, ty, pos, after, none⟩ :: l) r ds m H) : WL P ro n w0 ops Q (⟨dst, op, ty, pos, after, none⟩ :: l) r ds m H := h
end
def kK41 : Op → Bool
  | .range .. => true
  | _ => false
section
variable {P : Program} {ro : Option Nat} {n : Nat} {w0 : World} {Q : Exit → Act → World → Prop} {r : Env} {ds : List Nat} {m : Mem} {H : SHeap} {ops : Array Oper} {l : List Oper} {dst : Option Nat} {op : Op} {ty : TypeId} {pos : String} {after : Array Edge}
theorem iK41 (_hk : kK41 op = true) (h : WL P ro n w0 ops Q (⟨dst, op, ty, pos, after, none⟩ :: l) r ds m H) : WL P ro n w0 ops Q (⟨dst, op, ty, pos, after, none⟩ :: l) r ds m H := h
end
def kK42 : Op → Bool
  | .next .. => true
  | _ => false
section
variable {P : Program} {ro : Option Nat} {n : Nat} {w0 : World} {Q : Exit → Act → World → Prop} {r : Env} {ds : List Nat} {m : Mem} {H : SHeap} {ops : Array Oper} {l : List Oper} {dst : Option Nat} {op : Op} {ty : TypeId} {pos : String} {after : Array Edge}
theorem iK42 (_hk : kK42 op = true) (h : WL P ro n w0 ops Q (⟨dst, op, ty, pos, after, none⟩ :: l) r ds m H) : WL P ro n w0 ops Q (⟨dst, op, ty, pos, after, none⟩ :: l) r ds m H := h
end
def kK43 : Op → Bool
  | .call ⟨.builtin .append, _, _⟩ => true
  | _ => false
section
variable {P : Program} {ro : Option Nat} {n : Nat} {w0 : World} {Q : Exit → Act → World → Prop} {r : Env} {ds : List Nat} {m : Mem} {H : SHeap} {ops : Array Oper} {l : List Oper} {dst : Option Nat} {op : Op} {ty : TypeId} {pos : String} {after : Array Edge}
theorem iK43 (_hk : kK43 op = true) (h : WL P ro n w0 ops Q (⟨dst, op, ty, pos, after, none⟩ :: l) r ds m H) : WL P ro n w0 ops Q (⟨dst, op, ty, pos, after, none⟩ :: l) r ds m H := h
end
structure Bx (p : Prop) : Prop where
  out : p
theorem sp {G G' : Prop} (next : G') (h : Bx G' → G := by intro zzn; (repeat1' (refine iWL ?_; (first | (refine iN ?_; (first | (refine iA rfl ?_; (first | (refine iK1 rfl ?_; (first | refine WL.move rfl rfl ?_)) | (refine iK2 rfl ?_; (first | refine WL.assign rfl rfl ?_)) | (refine iK3 rfl ?_; (first | refine WL.extract rfl rfl rfl ?_)) | (refine iK4 rfl ?_; (first | refine WL.field1 rfl rfl rfl rfl rfl ?_)))) | (refine iB rfl ?_; (first | (refine iK5 rfl ?_; (first | refine WL.lss rfl rfl rfl ?_ | refine WL.lssS rfl rfl rfl ?_)) | (refine iK6 rfl ?_; (first | refine WL.leq rfl rfl rfl ?_)) | (refine iK7 rfl ?_; (first | refine WL.gtr rfl rfl rfl ?_)) | (refine iK8 rfl ?_; (first | refine WL.geq rfl rfl rfl ?_)) | (refine iK9 rfl ?_; (first | refine WL.eqlI rfl rfl rfl ?_ | refine WL.eqlS rfl rfl rfl ?_ | refine WL.eqlBool rfl rfl rfl rfl ?_ | refine WL.eqlNilF rfl rfl rfl rfl ?_ | refine WL.eqlNilP rfl rfl rfl rfl ?_ | refine WL.eqlNilSl rfl rfl rfl rfl ?_)) | (refine iK10 rfl ?_; (first | refine WL.neqI rfl rfl rfl ?_ | refine WL.neqS rfl rfl rfl ?_ | refine WL.neqBool rfl rfl rfl rfl ?_ | refine WL.neqNilP rfl rfl rfl rfl ?_ | refine WL.neqNilSl rfl rfl rfl rfl ?_)) | (refine iK11 rfl ?_; (first | refine WL.add64 rfl rfl rfl (by omega) ?_ | refine WL.add32 rfl rfl rfl (by omega) ?_ | refine WL.addu8 rfl rfl rfl (by omega) ?_ | refine WL.addS rfl rfl rfl (by omega) ?_)) | (refine iK12 rfl ?_; (first | refine WL.sub64 rfl rfl rfl (by omega) ?_ | refine WL.sub32 rfl rfl rfl (by omega) ?_ | refine WL.subu8 rfl rfl rfl (by omega) ?_)) | (refine iK13 rfl ?_; (first | refine WL.mul64 rfl rfl rfl (by omega) ?_ | refine WL.mul32 rfl rfl rfl (by omega) ?_)) | (refine iK14 rfl ?_; (first | refine WL.quo64 rfl rfl rfl (by omega) (by omega) ?_ | refine WL.quo32 rfl rfl rfl (by omega) (by omega) ?_)) | (refine iK15 rfl ?_; (first | refine WL.rem64 rfl rfl rfl (by omega) (by omega) ?_ | refine WL.rem32 rfl rfl rfl (by omega) (by omega) ?_ | refine WL.remu64 rfl rfl rfl (by omega) (by omega) ?_)) | (refine iK16 rfl ?_; (first | refine WL.shl rfl rfl rfl rfl rfl ?_)) | (refine iK17 rfl ?_; (first | refine WL.shr rfl rfl rfl rfl rfl ?_)) | (refine iK18 rfl ?_; (first | refine WL.and8 rfl rfl rfl (by omega) (by omega) ?_)) | (refine iK19 rfl ?_; (first | refine WL.or8 rfl rfl rfl (by omega) (by omega) ?_)) | (refine iK20 rfl ?_; (first | refine WL.not rfl rfl ?_)) | (refine iK21 rfl ?_; (first | refine WL.neg64 rfl rfl (by omega) ?_)) | (refine iK22 rfl ?_; (first | refine WL.conv64 rfl rfl rfl rfl (by omega) ?_ | refine WL.conv32 rfl rfl rfl rfl (by omega) ?_ | refine WL.conv8 rfl rfl rfl rfl (by omega) ?_ | refine WL.conv8mod rfl rfl rfl rfl ?_ | refine WL.convu64 rfl rfl rfl rfl (by omega) ?_ | refine WL.convRS rfl rfl rfl rfl ?_ | refine WL.convu64mod rfl rfl rfl rfl ?_ | (refine WL.strBytes rfl rfl rfl rfl rfl ?_; intro zza zza) | (refine WL.strRunes rfl rfl rfl rfl rfl ?_; intro zza zza))) | (refine iK23 rfl ?_; (first | refine WL.pick_t rfl rfl rfl ?_ | refine WL.pick_f rfl rfl rfl ?_ | refine WL.pickYes rfl (by first | omega | assumption | with_reducible rfl | with_reducible exact ⟨rfl, rfl⟩ | with_reducible exact ⟨rfl, rfl, rfl⟩ | exact ⟨rfl, rfl, rfl, rfl⟩) rfl rfl ?_ | refine WL.pickNo rfl (by first | omega | assumption | with_reducible rfl | with_reducible exact ⟨rfl, rfl⟩ | with_reducible exact ⟨rfl, rfl, rfl⟩ | exact ⟨rfl, rfl, rfl, rfl⟩) rfl rfl ?_ | refine WL.pickNyes rfl (by first | omega | assumption | with_reducible rfl | with_reducible exact ⟨rfl, rfl⟩ | with_reducible exact ⟨rfl, rfl, rfl⟩ | exact ⟨rfl, rfl, rfl, rfl⟩) rfl rfl ?_ | refine WL.pickNno rfl (by first | omega | assumption | with_reducible rfl | with_reducible exact ⟨rfl, rfl⟩ | with_reducible exact ⟨rfl, rfl, rfl⟩ | exact ⟨rfl, rfl, rfl, rfl⟩) rfl rfl ?_ | refine WL.pickIsT rfl (by assumption) rfl rfl ?_ | refine WL.pickIsF rfl (by assumption) rfl rfl ?_)))) | (refine iC rfl ?_; (first | (refine iK24 rfl ?_; (first | refine WL.load rfl (by (first | (apply Loads.one; (· exact rfl); (· first | (apply Cell.blk; (· (repeat (first | exact List.Mem.head _ | apply List.Mem.tail))); (· exact rfl)) | (apply Cell.mem; (· assumption); (· exact rfl)))) | (apply Loads.whole; (· exact rfl); (· exact rfl); (· (repeat (first | exact List.Mem.head _ | apply List.Mem.tail))); (· exact rfl)) | (apply Loads.blk; (· exact rfl); (· exact rfl); (· (repeat (first | exact List.Mem.head _ | apply List.Mem.tail))); (· (repeat (first | exact Seg.nil | (apply Seg.cons; (· exact rfl)))))) | (apply Loads.row; (· (repeat (first | exact List.Mem.head _ | apply List.Mem.tail))); (first | (rotate_left; (· exact rfl); rotate_right; (· assumption)) | ((· assumption); (· exact rfl))); (· exact rfl); (· exact rfl); (· exact rfl)) | (apply Loads.row1; (· (repeat (first | exact List.Mem.head _ | apply List.Mem.tail))); (first | (rotate_left; (· exact rfl); rotate_right; (· assumption)) | ((· assumption); (· exact rfl))); (· exact rfl)) | (apply Loads.rowF; (· (repeat (first | exact List.Mem.head _ | apply List.Mem.tail))); (first | (rotate_left; (· exact rfl); rotate_right; (· assumption)) | ((· assumption); (· exact rfl))); (· exact rfl); (· exact rfl)) | (apply Loads.prow; (· assumption); (first | (rotate_left; (· exact rfl); rotate_right; (· assumption)) | ((· assumption); (· exact rfl))); (· exact rfl); (· exact rfl); (· exact rfl)) | (apply Loads.prow1; (· assumption); (first | (rotate_left; (· exact rfl); rotate_right; (· assumption)) | ((· assumption); (· exact rfl))); (· exact rfl)) | (apply Loads.prowF; (· assumption); (first | (rotate_left; (· exact rfl); rotate_right; (· assumption)) | ((· assumption); (· exact rfl))); (· exact rfl); (· exact rfl)) | (apply Loads.rrow; (· assumption); (first | (rotate_left; (· exact rfl); rotate_right; (· assumption)) | ((· assumption); (· exact rfl))); (· exact rfl); (· exact rfl); (· exact rfl)) | (apply Loads.rrow1; (· assumption); (first | (rotate_left; (· exact rfl); rotate_right; (· assumption)) | ((· assumption); (· exact rfl))); (· exact rfl)) | (apply Loads.rrowF; (· assumption); (first | (rotate_left; (· exact rfl); rotate_right; (· assumption)) | ((· assumption); (· exact rfl))); (· exact rfl); (· exact rfl)) | (apply Loads.rowS; (· (repeat (first | exact List.Mem.head _ | apply List.Mem.tail))); (first | (rotate_left; (· exact rfl); rotate_right; (· assumption)) | ((· assumption); (· exact rfl))); (· exact rfl); (· exact rfl); (· (repeat (first | exact Seg.nil | (apply Seg.cons; (· exact rfl)))))))) (by exact rfl) ?_)) | (refine iK25 rfl ?_; (first | refine WL.fieldAddr0 rfl rfl rfl rfl rfl ?_ | refine WL.fieldAddrR rfl rfl rfl rfl rfl ?_ | refine WL.fieldAddr rfl rfl rfl rfl ?_)) | (refine iK26 rfl ?_; (first | refine WL.indexAddr rfl rfl (by (first | with_reducible exact natz _ | with_reducible exact natz0 | with_reducible exact natz1 | with_reducible exact natz2 | with_reducible exact natz3 | with_reducible exact natz4 | with_reducible exact natz8 | (apply natz_add; (· first | with_reducible exact natz _ | with_reducible exact natz0 | with_reducible exact natz1 | with_reducible exact natz2 | with_reducible exact natz3 | with_reducible exact natz4 | with_reducible exact natz8); (· first | with_reducible exact natz _ | with_reducible exact natz0 | with_reducible exact natz1 | with_reducible exact natz2 | with_reducible exact natz3 | with_reducible exact natz4 | with_reducible exact natz8)) | (apply natz_sub; (· first | with_reducible exact natz _ | with_reducible exact natz0 | with_reducible exact natz1 | with_reducible exact natz2 | with_reducible exact natz3 | with_reducible exact natz4 | with_reducible exact natz8); (· first | with_reducible exact natz _ | with_reducible exact natz0 | with_reducible exact natz1 | with_reducible exact natz2 | with_reducible exact natz3 | with_reducible exact natz4 | with_reducible exact natz8); (· omega)) | exact (Int.toNat_of_nonneg (by omega)).symm)) (by exact rfl) (by exact rfl) (by omega) (by exact rfl) ?_)) | (refine iK27 rfl ?_; (first | refine WL.store rfl rfl rfl rfl rfl (by (repeat (first | exact Repl.here | apply Repl.there))) (by (repeat (first | (apply NF.cons; (· exact rfl)) | exact NF.nil rfl))) (by exact rfl) (by exact .inl rfl) (by exact rfl) ?_ | refine WL.storeRow rfl rfl rfl rfl rfl rfl rfl (by (repeat (first | exact Repl.here | apply Repl.there))) (by first | omega | (simp; omega)) (by exact rfl) ?_ | refine WL.storeRowF rfl rfl rfl rfl rfl rfl rfl (by (repeat (first | exact Repl.here | apply Repl.there))) (by assumption) (by (repeat (first | (apply NF.cons; (· exact rfl)) | exact NF.nil rfl))) (by exact rfl) (by exact rfl) ?_)) | (refine iK28 rfl ?_; (first | (refine WL.alloc rfl rfl rfl ?_; intro zza))) | (refine iK29 rfl ?_; (first | (refine WL.box rfl rfl rfl ?_; intro zza))) | (refine iK30 rfl ?_; (first | refine WL.nilCheck rfl rfl ?_ | refine WL.nilCheckFunc rfl rfl ?_)))) | (refine iD rfl ?_; (first | (refine iK31 rfl ?_; (first | refine WL.min2 rfl rfl rfl ?_)) | (refine iK32 rfl ?_; (first | refine WL.max2 rfl rfl rfl ?_)) | (refine iK33 rfl ?_; (first | refine WL.lenS rfl rfl rfl ?_ | refine WL.lenSl rfl rfl rfl ?_)) | (refine iK34 rfl ?_; (first | refine WL.indexS rfl rfl (by (first | with_reducible exact natz _ | with_reducible exact natz0 | with_reducible exact natz1 | with_reducible exact natz2 | with_reducible exact natz3 | with_reducible exact natz4 | with_reducible exact natz8 | (apply natz_add; (· first | with_reducible exact natz _ | with_reducible exact natz0 | with_reducible exact natz1 | with_reducible exact natz2 | with_reducible exact natz3 | with_reducible exact natz4 | with_reducible exact natz8); (· first | with_reducible exact natz _ | with_reducible exact natz0 | with_reducible exact natz1 | with_reducible exact natz2 | with_reducible exact natz3 | with_reducible exact natz4 | with_reducible exact natz8)) | (apply natz_sub; (· first | with_reducible exact natz _ | with_reducible exact natz0 | with_reducible exact natz1 | with_reducible exact natz2 | with_reducible exact natz3 | with_reducible exact natz4 | with_reducible exact natz8); (· first | with_reducible exact natz _ | with_reducible exact natz0 | with_reducible exact natz1 | with_reducible exact natz2 | with_reducible exact natz3 | with_reducible exact natz4 | with_reducible exact natz8); (· omega)) | exact (Int.toNat_of_nonneg (by omega)).symm)) (by exact rfl) (by exact rfl) (by omega) ?_)) | (refine iK35 rfl ?_; (first | refine WL.sliceLH rfl rfl rfl (by (first | with_reducible exact natz _ | with_reducible exact natz0 | with_reducible exact natz1 | with_reducible exact natz2 | with_reducible exact natz3 | with_reducible exact natz4 | with_reducible exact natz8 | (apply natz_add; (· first | with_reducible exact natz _ | with_reducible exact natz0 | with_reducible exact natz1 | with_reducible exact natz2 | with_reducible exact natz3 | with_reducible exact natz4 | with_reducible exact natz8); (· first | with_reducible exact natz _ | with_reducible exact natz0 | with_reducible exact natz1 | with_reducible exact natz2 | with_reducible exact natz3 | with_reducible exact natz4 | with_reducible exact natz8)) | (apply natz_sub; (· first | with_reducible exact natz _ | with_reducible exact natz0 | with_reducible exact natz1 | with_reducible exact natz2 | with_reducible exact natz3 | with_reducible exact natz4 | with_reducible exact natz8); (· first | with_reducible exact natz _ | with_reducible exact natz0 | with_reducible exact natz1 | with_reducible exact natz2 | with_reducible exact natz3 | with_reducible exact natz4 | with_reducible exact natz8); (· omega)) | exact (Int.toNat_of_nonneg (by omega)).symm)) (by (first | with_reducible exact natz _ | with_reducible exact natz0 | with_reducible exact natz1 | with_reducible exact natz2 | with_reducible exact natz3 | with_reducible exact natz4 | with_reducible exact natz8 | (apply natz_add; (· first | with_reducible exact natz _ | with_reducible exact natz0 | with_reducible exact natz1 | with_reducible exact natz2 | with_reducible exact natz3 | with_reducible exact natz4 | with_reducible exact natz8); (· first | with_reducible exact natz _ | with_reducible exact natz0 | with_reducible exact natz1 | with_reducible exact natz2 | with_reducible exact natz3 | with_reducible exact natz4 | with_reducible exact natz8)) | (apply natz_sub; (· first | with_reducible exact natz _ | with_reducible exact natz0 | with_reducible exact natz1 | with_reducible exact natz2 | with_reducible exact natz3 | with_reducible exact natz4 | with_reducible exact natz8); (· first | with_reducible exact natz _ | with_reducible exact natz0 | with_reducible exact natz1 | with_reducible exact natz2 | with_reducible exact natz3 | with_reducible exact natz4 | with_reducible exact natz8); (· omega)) | exact (Int.toNat_of_nonneg (by omega)).symm)) (by exact rfl) (by exact rfl) (by omega) ?_ | refine WL.sliceL rfl rfl (by (first | with_reducible exact natz _ | with_reducible exact natz0 | with_reducible exact natz1 | with_reducible exact natz2 | with_reducible exact natz3 | with_reducible exact natz4 | with_reducible exact natz8 | (apply natz_add; (· first | with_reducible exact natz _ | with_reducible exact natz0 | with_reducible exact natz1 | with_reducible exact natz2 | with_reducible exact natz3 | with_reducible exact natz4 | with_reducible exact natz8); (· first | with_reducible exact natz _ | with_reducible exact natz0 | with_reducible exact natz1 | with_reducible exact natz2 | with_reducible exact natz3 | with_reducible exact natz4 | with_reducible exact natz8)) | (apply natz_sub; (· first | with_reducible exact natz _ | with_reducible exact natz0 | with_reducible exact natz1 | with_reducible exact natz2 | with_reducible exact natz3 | with_reducible exact natz4 | with_reducible exact natz8); (· first | with_reducible exact natz _ | with_reducible exact natz0 | with_reducible exact natz1 | with_reducible exact natz2 | with_reducible exact natz3 | with_reducible exact natz4 | with_reducible exact natz8); (· omega)) | exact (Int.toNat_of_nonneg (by omega)).symm)) (by exact rfl) (by exact rfl) (by omega) ?_ | refine WL.sliceH rfl rfl (by (first | with_reducible exact natz _ | with_reducible exact natz0 | with_reducible exact natz1 | with_reducible exact natz2 | with_reducible exact natz3 | with_reducible exact natz4 | with_reducible exact natz8 | (apply natz_add; (· first | with_reducible exact natz _ | with_reducible exact natz0 | with_reducible exact natz1 | with_reducible exact natz2 | with_reducible exact natz3 | with_reducible exact natz4 | with_reducible exact natz8); (· first | with_reducible exact natz _ | with_reducible exact natz0 | with_reducible exact natz1 | with_reducible exact natz2 | with_reducible exact natz3 | with_reducible exact natz4 | with_reducible exact natz8)) | (apply natz_sub; (· first | with_reducible exact natz _ | with_reducible exact natz0 | with_reducible exact natz1 | with_reducible exact natz2 | with_reducible exact natz3 | with_reducible exact natz4 | with_reducible exact natz8); (· first | with_reducible exact natz _ | with_reducible exact natz0 | with_reducible exact natz1 | with_reducible exact natz2 | with_reducible exact natz3 | with_reducible exact natz4 | with_reducible exact natz8); (· omega)) | exact (Int.toNat_of_nonneg (by omega)).symm)) (by exact rfl) (by exact rfl) (by omega) ?_ | refine WL.slLH rfl rfl rfl (by (first | with_reducible exact natz _ | with_reducible exact natz0 | with_reducible exact natz1 | with_reducible exact natz2 | with_reducible exact natz3 | with_reducible exact natz4 | with_reducible exact natz8 | (apply natz_add; (· first | with_reducible exact natz _ | with_reducible exact natz0 | with_reducible exact natz1 | with_reducible exact natz2 | with_reducible exact natz3 | with_reducible exact natz4 | with_reducible exact natz8); (· first | with_reducible exact natz _ | with_reducible exact natz0 | with_reducible exact natz1 | with_reducible exact natz2 | with_reducible exact natz3 | with_reducible exact natz4 | with_reducible exact natz8)) | (apply natz_sub; (· first | with_reducible exact natz _ | with_reducible exact natz0 | with_reducible exact natz1 | with_reducible exact natz2 | with_reducible exact natz3 | with_reducible exact natz4 | with_reducible exact natz8); (· first | with_reducible exact natz _ | with_reducible exact natz0 | with_reducible exact natz1 | with_reducible exact natz2 | with_reducible exact natz3 | with_reducible exact natz4 | with_reducible exact natz8); (· omega)) | exact (Int.toNat_of_nonneg (by omega)).symm)) (by (first | with_reducible exact natz _ | with_reducible exact natz0 | with_reducible exact natz1 | with_reducible exact natz2 | with_reducible exact natz3 | with_reducible exact natz4 | with_reducible exact natz8 | (apply natz_add; (· first | with_reducible exact natz _ | with_reducible exact natz0 | with_reducible exact natz1 | with_reducible exact natz2 | with_reducible exact natz3 | with_reducible exact natz4 | with_reducible exact natz8); (· first | with_reducible exact natz _ | with_reducible exact natz0 | with_reducible exact natz1 | with_reducible exact natz2 | with_reducible exact natz3 | with_reducible exact natz4 | with_reducible exact natz8)) | (apply natz_sub; (· first | with_reducible exact natz _ | with_reducible exact natz0 | with_reducible exact natz1 | with_reducible exact natz2 | with_reducible exact natz3 | with_reducible exact natz4 | with_reducible exact natz8); (· first | with_reducible exact natz _ | with_reducible exact natz0 | with_reducible exact natz1 | with_reducible exact natz2 | with_reducible exact natz3 | with_reducible exact natz4 | with_reducible exact natz8); (· omega)) | exact (Int.toNat_of_nonneg (by omega)).symm)) (by exact rfl) (by exact rfl) (by exact rfl) (by omega) ?_ | refine WL.slH rfl rfl (by (first | with_reducible exact natz _ | with_reducible exact natz0 | with_reducible exact natz1 | with_reducible exact natz2 | with_reducible exact natz3 | with_reducible exact natz4 | with_reducible exact natz8 | (apply natz_add; (· first | with_reducible exact natz _ | with_reducible exact natz0 | with_reducible exact natz1 | with_reducible exact natz2 | with_reducible exact natz3 | with_reducible exact natz4 | with_reducible exact natz8); (· first | with_reducible exact natz _ | with_reducible exact natz0 | with_reducible exact natz1 | with_reducible exact natz2 | with_reducible exact natz3 | with_reducible exact natz4 | with_reducible exact natz8)) | (apply natz_sub; (· first | with_reducible exact natz _ | with_reducible exact natz0 | with_reducible exact natz1 | with_reducible exact natz2 | with_reducible exact natz3 | with_reducible exact natz4 | with_reducible exact natz8); (· first | with_reducible exact natz _ | with_reducible exact natz0 | with_reducible exact natz1 | with_reducible exact natz2 | with_reducible exact natz3 | with_reducible exact natz4 | with_reducible exact natz8); (· omega)) | exact (Int.toNat_of_nonneg (by omega)).symm)) (by exact rfl) (by exact rfl) (by exact rfl) (by omega) ?_ | refine WL.slL rfl rfl (by (first | with_reducible exact natz _ | with_reducible exact natz0 | with_reducible exact natz1 | with_reducible exact natz2 | with_reducible exact natz3 | with_reducible exact natz4 | with_reducible exact natz8 | (apply natz_add; (· first | with_reducible exact natz _ | with_reducible exact natz0 | with_reducible exact natz1 | with_reducible exact natz2 | with_reducible exact natz3 | with_reducible exact natz4 | with_reducible exact natz8); (· first | with_reducible exact natz _ | with_reducible exact natz0 | with_reducible exact natz1 | with_reducible exact natz2 | with_reducible exact natz3 | with_reducible exact natz4 | with_reducible exact natz8)) | (apply natz_sub; (· first | with_reducible exact natz _ | with_reducible exact natz0 | with_reducible exact natz1 | with_reducible exact natz2 | with_reducible exact natz3 | with_reducible exact natz4 | with_reducible exact natz8); (· first | with_reducible exact natz _ | with_reducible exact natz0 | with_reducible exact natz1 | with_reducible exact natz2 | with_reducible exact natz3 | with_reducible exact natz4 | with_reducible exact natz8); (· omega)) | exact (Int.toNat_of_nonneg (by omega)).symm)) (by exact rfl) (by exact rfl) (by exact rfl) (by omega) ?_)) | (refine iK36 rfl ?_; (first | refine WL.makeFunc rfl rfl rfl ?_)) | (refine iK37 rfl ?_; (first | refine WL.makeIface rfl rfl rfl ?_)) | (refine iK38 rfl ?_; (first | refine WL.build rfl rfl rfl rfl rfl (by (repeat (first | (apply NF.cons; (· exact rfl)) | exact NF.nil rfl))) (by exact rfl) ?_ | refine WL.buildArr rfl rfl rfl rfl rfl rfl (by (repeat (first | (apply NF.cons; (· exact rfl)) | exact NF.nil rfl))) (by exact rfl) ?_)) | (refine iK39 rfl ?_; (first | (refine WL.buildSlice rfl rfl rfl rfl rfl rfl rfl rfl (by (repeat (first | (apply NF.cons; (· exact rfl)) | exact NF.nil rfl))) (by exact rfl) ?_; intro zza) | (refine WL.buildSlice0 (sz:=1) rfl rfl rfl ?_; intro zza))) | (refine iK40 rfl ?_; (first | (refine WL.makeRow (sz:=1) (by':=1) (zs:=[.int .u8 0]) rfl rfl (by (first | with_reducible exact natz _ | with_reducible exact natz0 | with_reducible exact natz1 | with_reducible exact natz2 | with_reducible exact natz3 | with_reducible exact natz4 | with_reducible exact natz8 | (apply natz_add; (· first | with_reducible exact natz _ | with_reducible exact natz0 | with_reducible exact natz1 | with_reducible exact natz2 | with_reducible exact natz3 | with_reducible exact natz4 | with_reducible exact natz8); (· first | with_reducible exact natz _ | with_reducible exact natz0 | with_reducible exact natz1 | with_reducible exact natz2 | with_reducible exact natz3 | with_reducible exact natz4 | with_reducible exact natz8)) | (apply natz_sub; (· first | with_reducible exact natz _ | with_reducible exact natz0 | with_reducible exact natz1 | with_reducible exact natz2 | with_reducible exact natz3 | with_reducible exact natz4 | with_reducible exact natz8); (· first | with_reducible exact natz _ | with_reducible exact natz0 | with_reducible exact natz1 | with_reducible exact natz2 | with_reducible exact natz3 | with_reducible exact natz4 | with_reducible exact natz8); (· omega)) | exact (Int.toNat_of_nonneg (by omega)).symm)) (by (first | with_reducible exact natz _ | with_reducible exact natz0 | with_reducible exact natz1 | with_reducible exact natz2 | with_reducible exact natz3 | with_reducible exact natz4 | with_reducible exact natz8 | (apply natz_add; (· first | with_reducible exact natz _ | with_reducible exact natz0 | with_reducible exact natz1 | with_reducible exact natz2 | with_reducible exact natz3 | with_reducible exact natz4 | with_reducible exact natz8); (· first | with_reducible exact natz _ | with_reducible exact natz0 | with_reducible exact natz1 | with_reducible exact natz2 | with_reducible exact natz3 | with_reducible exact natz4 | with_reducible exact natz8)) | (apply natz_sub; (· first | with_reducible exact natz _ | with_reducible exact natz0 | with_reducible exact natz1 | with_reducible exact natz2 | with_reducible exact natz3 | with_reducible exact natz4 | with_reducible exact natz8); (· first | with_reducible exact natz _ | with_reducible exact natz0 | with_reducible exact natz1 | with_reducible exact natz2 | with_reducible exact natz3 | with_reducible exact natz4 | with_reducible exact natz8); (· omega)) | exact (Int.toNat_of_nonneg (by omega)).symm)) (by exact rfl) (by exact rfl) (by exact rfl) (by exact rfl) (by exact rfl) (by exact rfl) (by decide) (by omega) (by omega) (by exact rfl) ?_; intro zza) | (refine WL.makeRow (sz:=1) (by':=8) (zs:=[.int .i64 0]) rfl rfl (by (first | with_reducible exact natz _ | with_reducible exact natz0 | with_reducible exact natz1 | with_reducible exact natz2 | with_reducible exact natz3 | with_reducible exact natz4 | with_reducible exact natz8 | (apply natz_add; (· first | with_reducible exact natz _ | with_reducible exact natz0 | with_reducible exact natz1 | with_reducible exact natz2 | with_reducible exact natz3 | with_reducible exact natz4 | with_reducible exact natz8); (· first | with_reducible exact natz _ | with_reducible exact natz0 | with_reducible exact natz1 | with_reducible exact natz2 | with_reducible exact natz3 | with_reducible exact natz4 | with_reducible exact natz8)) | (apply natz_sub; (· first | with_reducible exact natz _ | with_reducible exact natz0 | with_reducible exact natz1 | with_reducible exact natz2 | with_reducible exact natz3 | with_reducible exact natz4 | with_reducible exact natz8); (· first | with_reducible exact natz _ | with_reducible exact natz0 | with_reducible exact natz1 | with_reducible exact natz2 | with_reducible exact natz3 | with_reducible exact natz4 | with_reducible exact natz8); (· omega)) | exact (Int.toNat_of_nonneg (by omega)).symm)) (by (first | with_reducible exact natz _ | with_reducible exact natz0 | with_reducible exact natz1 | with_reducible exact natz2 | with_reducible exact natz3 | with_reducible exact natz4 | with_reducible exact natz8 | (apply natz_add; (· first | with_reducible exact natz _ | with_reducible exact natz0 | with_reducible exact natz1 | with_reducible exact natz2 | with_reducible exact natz3 | with_reducible exact natz4 | with_reducible exact natz8); (· first | with_reducible exact natz _ | with_reducible exact natz0 | with_reducible exact natz1 | with_reducible exact natz2 | with_reducible exact natz3 | with_reducible exact natz4 | with_reducible exact natz8)) | (apply natz_sub; (· first | with_reducible exact natz _ | with_reducible exact natz0 | with_reducible exact natz1 | with_reducible exact natz2 | with_reducible exact natz3 | with_reducible exact natz4 | with_reducible exact natz8); (· first | with_reducible exact natz _ | with_reducible exact natz0 | with_reducible exact natz1 | with_reducible exact natz2 | with_reducible exact natz3 | with_reducible exact natz4 | with_reducible exact natz8); (· omega)) | exact (Int.toNat_of_nonneg (by omega)).symm)) (by exact rfl) (by exact rfl) (by exact rfl) (by exact rfl) (by exact rfl) (by exact rfl) (by decide) (by omega) (by omega) (by exact rfl) ?_; intro zza) | (refine WL.makeRow (sz:=1) (by':=4) (zs:=[.int .i32 0]) rfl rfl (by (first | with_reducible exact natz _ | with_reducible exact natz0 | with_reducible exact natz1 | with_reducible exact natz2 | with_reducible exact natz3 | with_reducible exact natz4 | with_reducible exact natz8 | (apply natz_add; (· first | with_reducible exact natz _ | with_reducible exact natz0 | with_reducible exact natz1 | with_reducible exact natz2 | with_reducible exact natz3 | with_reducible exact natz4 | with_reducible exact natz8); (· first | with_reducible exact natz _ | with_reducible exact natz0 | with_reducible exact natz1 | with_reducible exact natz2 | with_reducible exact natz3 | with_reducible exact natz4 | with_reducible exact natz8)) | (apply natz_sub; (· first | with_reducible exact natz _ | with_reducible exact natz0 | with_reducible exact natz1 | with_reducible exact natz2 | with_reducible exact natz3 | with_reducible exact natz4 | with_reducible exact natz8); (· first | with_reducible exact natz _ | with_reducible exact natz0 | with_reducible exact natz1 | with_reducible exact natz2 | with_reducible exact natz3 | with_reducible exact natz4 | with_reducible exact natz8); (· omega)) | exact (Int.toNat_of_nonneg (by omega)).symm)) (by (first | with_reducible exact natz _ | with_reducible exact natz0 | with_reducible exact natz1 | with_reducible exact natz2 | with_reducible exact natz3 | with_reducible exact natz4 | with_reducible exact natz8 | (apply natz_add; (· first | with_reducible exact natz _ | with_reducible exact natz0 | with_reducible exact natz1 | with_reducible exact natz2 | with_reducible exact natz3 | with_reducible exact natz4 | with_reducible exact natz8); (· first | with_reducible exact natz _ | with_reducible exact natz0 | with_reducible exact natz1 | with_reducible exact natz2 | with_reducible exact natz3 | with_reducible exact natz4 | with_reducible exact natz8)) | (apply natz_sub; (· first | with_reducible exact natz _ | with_reducible exact natz0 | with_reducible exact natz1 | with_reducible exact natz2 | with_reducible exact natz3 | with_reducible exact natz4 | with_reducible exact natz8); (· first | with_reducible exact natz _ | with_reducible exact natz0 | with_reducible exact natz1 | with_reducible exact natz2 | with_reducible exact natz3 | with_reducible exact natz4 | with_reducible exact natz8); (· omega)) | exact (Int.toNat_of_nonneg (by omega)).symm)) (by exact rfl) (by exact rfl) (by exact rfl) (by exact rfl) (by exact rfl) (by exact rfl) (by decide) (by omega) (by omega) (by exact rfl) ?_; intro zza) | (refine WL.makeRoom (by':=4) rfl rfl rfl (by (first | with_reducible exact natz _ | with_reducible exact natz0 | with_reducible exact natz1 | with_reducible exact natz2 | with_reducible exact natz3 | with_reducible exact natz4 | with_reducible exact natz8 | (apply natz_add; (· first | with_reducible exact natz _ | with_reducible exact natz0 | with_reducible exact natz1 | with_reducible exact natz2 | with_reducible exact natz3 | with_reducible exact natz4 | with_reducible exact natz8); (· first | with_reducible exact natz _ | with_reducible exact natz0 | with_reducible exact natz1 | with_reducible exact natz2 | with_reducible exact natz3 | with_reducible exact natz4 | with_reducible exact natz8)) | (apply natz_sub; (· first | with_reducible exact natz _ | with_reducible exact natz0 | with_reducible exact natz1 | with_reducible exact natz2 | with_reducible exact natz3 | with_reducible exact natz4 | with_reducible exact natz8); (· first | with_reducible exact natz _ | with_reducible exact natz0 | with_reducible exact natz1 | with_reducible exact natz2 | with_reducible exact natz3 | with_reducible exact natz4 | with_reducible exact natz8); (· omega)) | exact (Int.toNat_of_nonneg (by omega)).symm)) (by exact rfl) (by exact rfl) (by exact rfl) (by exact rfl) (by omega) (by omega) (by exact rfl) ?_; intro zza) | (refine WL.makeRoom (by':=8) rfl rfl rfl (by (first | with_reducible exact natz _ | with_reducible exact natz0 | with_reducible exact natz1 | with_reducible exact natz2 | with_reducible exact natz3 | with_reducible exact natz4 | with_reducible exact natz8 | (apply natz_add; (· first | with_reducible exact natz _ | with_reducible exact natz0 | with_reducible exact natz1 | with_reducible exact natz2 | with_reducible exact natz3 | with_reducible exact natz4 | with_reducible exact natz8); (· first | with_reducible exact natz _ | with_reducible exact natz0 | with_reducible exact natz1 | with_reducible exact natz2 | with_reducible exact natz3 | with_reducible exact natz4 | with_reducible exact natz8)) | (apply natz_sub; (· first | with_reducible exact natz _ | with_reducible exact natz0 | with_reducible exact natz1 | with_reducible exact natz2 | with_reducible exact natz3 | with_reducible exact natz4 | with_reducible exact natz8); (· first | with_reducible exact natz _ | with_reducible exact natz0 | with_reducible exact natz1 | with_reducible exact natz2 | with_reducible exact natz3 | with_reducible exact natz4 | with_reducible exact natz8); (· omega)) | exact (Int.toNat_of_nonneg (by omega)).symm)) (by exact rfl) (by exact rfl) (by exact rfl) (by exact rfl) (by omega) (by omega) (by exact rfl) ?_; intro zza) | (refine WL.makeRoom (by':=1) rfl rfl rfl (by (first | with_reducible exact natz _ | with_reducible exact natz0 | with_reducible exact natz1 | with_reducible exact natz2 | with_reducible exact natz3 | with_reducible exact natz4 | with_reducible exact natz8 | (apply natz_add; (· first | with_reducible exact natz _ | with_reducible exact natz0 | with_reducible exact natz1 | with_reducible exact natz2 | with_reducible exact natz3 | with_reducible exact natz4 | with_reducible exact natz8); (· first | with_reducible exact natz _ | with_reducible exact natz0 | with_reducible exact natz1 | with_reducible exact natz2 | with_reducible exact natz3 | with_reducible exact natz4 | with_reducible exact natz8)) | (apply natz_sub; (· first | with_reducible exact natz _ | with_reducible exact natz0 | with_reducible exact natz1 | with_reducible exact natz2 | with_reducible exact natz3 | with_reducible exact natz4 | with_reducible exact natz8); (· first | with_reducible exact natz _ | with_reducible exact natz0 | with_reducible exact natz1 | with_reducible exact natz2 | with_reducible exact natz3 | with_reducible exact natz4 | with_reducible exact natz8); (· omega)) | exact (Int.toNat_of_nonneg (by omega)).symm)) (by exact rfl) (by exact rfl) (by exact rfl) (by exact rfl) (by omega) (by omega) (by exact rfl) ?_; intro zza) | (refine WL.makeRoom (by':=24) rfl rfl rfl (by (first | with_reducible exact natz _ | with_reducible exact natz0 | with_reducible exact natz1 | with_reducible exact natz2 | with_reducible exact natz3 | with_reducible exact natz4 | with_reducible exact natz8 | (apply natz_add; (· first | with_reducible exact natz _ | with_reducible exact natz0 | with_reducible exact natz1 | with_reducible exact natz2 | with_reducible exact natz3 | with_reducible exact natz4 | with_reducible exact natz8); (· first | with_reducible exact natz _ | with_reducible exact natz0 | with_reducible exact natz1 | with_reducible exact natz2 | with_reducible exact natz3 | with_reducible exact natz4 | with_reducible exact natz8)) | (apply natz_sub; (· first | with_reducible exact natz _ | with_reducible exact natz0 | with_reducible exact natz1 | with_reducible exact natz2 | with_reducible exact natz3 | with_reducible exact natz4 | with_reducible exact natz8); (· first | with_reducible exact natz _ | with_reducible exact natz0 | with_reducible exact natz1 | with_reducible exact natz2 | with_reducible exact natz3 | with_reducible exact natz4 | with_reducible exact natz8); (· omega)) | exact (Int.toNat_of_nonneg (by omega)).symm)) (by exact rfl) (by exact rfl) (by exact rfl) (by exact rfl) (by omega) (by omega) (by exact rfl) ?_; intro zza) | (refine WL.makeRoom (by':=16) rfl rfl rfl (by (first | with_reducible exact natz _ | with_reducible exact natz0 | with_reducible exact natz1 | with_reducible exact natz2 | with_reducible exact natz3 | with_reducible exact natz4 | with_reducible exact natz8 | (apply natz_add; (· first | with_reducible exact natz _ | with_reducible exact natz0 | with_reducible exact natz1 | with_reducible exact natz2 | with_reducible exact natz3 | with_reducible exact natz4 | with_reducible exact natz8); (· first | with_reducible exact natz _ | with_reducible exact natz0 | with_reducible exact natz1 | with_reducible exact natz2 | with_reducible exact natz3 | with_reducible exact natz4 | with_reducible exact natz8)) | (apply natz_sub; (· first | with_reducible exact natz _ | with_reducible exact natz0 | with_reducible exact natz1 | with_reducible exact natz2 | with_reducible exact natz3 | with_reducible exact natz4 | with_reducible exact natz8); (· first | with_reducible exact natz _ | with_reducible exact natz0 | with_reducible exact natz1 | with_reducible exact natz2 | with_reducible exact natz3 | with_reducible exact natz4 | with_reducible exact natz8); (· omega)) | exact (Int.toNat_of_nonneg (by omega)).symm)) (by exact rfl) (by exact rfl) (by exact rfl) (by exact rfl) (by omega) (by omega) (by exact rfl) ?_; intro zza) | (refine WL.makeRoom (by':=40) rfl rfl rfl (by (first | with_reducible exact natz _ | with_reducible exact natz0 | with_reducible exact natz1 | with_reducible exact natz2 | with_reducible exact natz3 | with_reducible exact natz4 | with_reducible exact natz8 | (apply natz_add; (· first | with_reducible exact natz _ | with_reducible exact natz0 | with_reducible exact natz1 | with_reducible exact natz2 | with_reducible exact natz3 | with_reducible exact natz4 | with_reducible exact natz8); (· first | with_reducible exact natz _ | with_reducible exact natz0 | with_reducible exact natz1 | with_reducible exact natz2 | with_reducible exact natz3 | with_reducible exact natz4 | with_reducible exact natz8)) | (apply natz_sub; (· first | with_reducible exact natz _ | with_reducible exact natz0 | with_reducible exact natz1 | with_reducible exact natz2 | with_reducible exact natz3 | with_reducible exact natz4 | with_reducible exact natz8); (· first | with_reducible exact natz _ | with_reducible exact natz0 | with_reducible exact natz1 | with_reducible exact natz2 | with_reducible exact natz3 | with_reducible exact natz4 | with_reducible exact natz8); (· omega)) | exact (Int.toNat_of_nonneg (by omega)).symm)) (by exact rfl) (by exact rfl) (by exact rfl) (by exact rfl) (by omega) (by omega) (by exact rfl) ?_; intro zza))) | (refine iK41 rfl ?_; (first | (refine WL.rangeS rfl rfl rfl ?_; intro zza))) | (refine iK42 rfl ?_; (first | refine WL.nextS rfl (by (repeat (first | exact Repl.here | apply Repl.there))) (by first | omega | (simp; omega)) (by exact rfl) ?_ | refine WL.nextEnd rfl (by (repeat (first | exact Out.here | apply Out.there))) (by first | omega | (simp; omega)) (by exact rfl) ?_)) | (refine iK43 rfl ?_; (first | (refine WL.append1 (by':=24) rfl rfl rfl rfl (by (repeat (first | exact Out.here | apply Out.there))) (by (repeat (first | exact List.Mem.head _ | apply List.Mem.tail))) (by exact rfl) (by exact rfl) (by exact rfl) (by exact rfl) (by exact rfl) (by exact rfl) (by first | exact rfl | (simp; done) | omega) (by first | omega | (simp; omega)) (by decide) (by exact rfl) ?_; intro zza zza) | (refine WL.append1 (by':=8) rfl rfl rfl rfl (by (repeat (first | exact Out.here | apply Out.there))) (by (repeat (first | exact List.Mem.head _ | apply List.Mem.tail))) (by exact rfl) (by exact rfl) (by exact rfl) (by exact rfl) (by exact rfl) (by exact rfl) (by first | exact rfl | (simp; done) | omega) (by first | omega | (simp; omega)) (by decide) (by exact rfl) ?_; intro zza zza) | (refine WL.append1 (by':=4) rfl rfl rfl rfl (by (repeat (first | exact Out.here | apply Out.there))) (by (repeat (first | exact List.Mem.head _ | apply List.Mem.tail))) (by exact rfl) (by exact rfl) (by exact rfl) (by exact rfl) (by exact rfl) (by exact rfl) (by first | exact rfl | (simp; done) | omega) (by first | omega | (simp; omega)) (by decide) (by exact rfl) ?_; intro zza zza) | (refine WL.append1 (by':=1) rfl rfl rfl rfl (by (repeat (first | exact Out.here | apply Out.there))) (by (repeat (first | exact List.Mem.head _ | apply List.Mem.tail))) (by exact rfl) (by exact rfl) (by exact rfl) (by exact rfl) (by exact rfl) (by exact rfl) (by first | exact rfl | (simp; done) | omega) (by first | omega | (simp; omega)) (by decide) (by exact rfl) ?_; intro zza zza) | (refine WL.append1 (by':=16) rfl rfl rfl rfl (by (repeat (first | exact Out.here | apply Out.there))) (by (repeat (first | exact List.Mem.head _ | apply List.Mem.tail))) (by exact rfl) (by exact rfl) (by exact rfl) (by exact rfl) (by exact rfl) (by exact rfl) (by first | exact rfl | (simp; done) | omega) (by first | omega | (simp; omega)) (by decide) (by exact rfl) ?_; intro zza zza) | (refine WL.append1 (by':=40) rfl rfl rfl rfl (by (repeat (first | exact Out.here | apply Out.there))) (by (repeat (first | exact List.Mem.head _ | apply List.Mem.tail))) (by exact rfl) (by exact rfl) (by exact rfl) (by exact rfl) (by exact rfl) (by exact rfl) (by first | exact rfl | (simp; done) | omega) (by first | omega | (simp; omega)) (by decide) (by exact rfl) ?_; intro zza zza) | (refine WL.append1 (by':=32) rfl rfl rfl rfl (by (repeat (first | exact Out.here | apply Out.there))) (by (repeat (first | exact List.Mem.head _ | apply List.Mem.tail))) (by exact rfl) (by exact rfl) (by exact rfl) (by exact rfl) (by exact rfl) (by exact rfl) (by first | exact rfl | (simp; done) | omega) (by first | omega | (simp; omega)) (by decide) (by exact rfl) ?_; intro zza zza) | (refine WL.append1 (by':=48) rfl rfl rfl rfl (by (repeat (first | exact Out.here | apply Out.there))) (by (repeat (first | exact List.Mem.head _ | apply List.Mem.tail))) (by exact rfl) (by exact rfl) (by exact rfl) (by exact rfl) (by exact rfl) (by exact rfl) (by first | exact rfl | (simp; done) | omega) (by first | omega | (simp; omega)) (by decide) (by exact rfl) ?_; intro zza zza) | (refine WL.appendS rfl rfl rfl rfl (by (repeat (first | exact Out.here | apply Out.there))) (by exact rfl) (by exact rfl) (by exact rfl) (by exact rfl) (by first | exact rfl | (simp; done) | omega) (by omega) (by exact rfl) ?_; intro zza zza))))))) | refine WL.nil ?_ | (refine iG ?_; (first | refine WL.on rfl rfl ?_ | refine WL.off rfl rfl rfl rfl ?_ | refine WL.off' rfl rfl rfl ?_ | refine WL.offU rfl rfl rfl ?_ | refine WL.gyes rfl rfl (by first | omega | assumption | with_reducible rfl | with_reducible exact ⟨rfl, rfl⟩ | with_reducible exact ⟨rfl, rfl, rfl⟩ | exact ⟨rfl, rfl, rfl, rfl⟩) ?_ | refine WL.gno rfl rfl (by first | omega | assumption | with_reducible rfl | with_reducible exact ⟨rfl, rfl⟩ | with_reducible exact ⟨rfl, rfl, rfl⟩ | exact ⟨rfl, rfl, rfl, rfl⟩) ?_ | refine WL.gnyes rfl rfl (by first | omega | assumption | with_reducible rfl | with_reducible exact ⟨rfl, rfl⟩ | with_reducible exact ⟨rfl, rfl, rfl⟩ | exact ⟨rfl, rfl, rfl, rfl⟩) ?_ | refine WL.gnno rfl rfl (by first | omega | assumption | with_reducible rfl | with_reducible exact ⟨rfl, rfl⟩ | with_reducible exact ⟨rfl, rfl, rfl⟩ | exact ⟨rfl, rfl, rfl, rfl⟩) ?_ | refine WL.gis (k:=true) rfl rfl (by assumption) ?_ | refine WL.gis (k:=false) rfl rfl (by assumption) ?_))))); (repeat revert zza); exact zzn.out) : G := h ⟨next⟩
theorem st {G G' : Prop} (next : G') (h : Bx G' → G := by intro zzn; (repeat1' (first | (refine iWL ?_; (first | (refine iN ?_; (first | (refine iA rfl ?_; (first | (refine iK1 rfl ?_; (first | refine WL.move rfl rfl ?_)) | (refine iK2 rfl ?_; (first | refine WL.assign rfl rfl ?_)) | (refine iK3 rfl ?_; (first | refine WL.extract rfl rfl rfl ?_)) | (refine iK4 rfl ?_; (first | refine WL.field1 rfl rfl rfl rfl rfl ?_)))) | (refine iB rfl ?_; (first | (refine iK5 rfl ?_; (first | refine WL.lss rfl rfl rfl ?_ | refine WL.lssS rfl rfl rfl ?_)) | (refine iK6 rfl ?_; (first | refine WL.leq rfl rfl rfl ?_)) | (refine iK7 rfl ?_; (first | refine WL.gtr rfl rfl rfl ?_)) | (refine iK8 rfl ?_; (first | refine WL.geq rfl rfl rfl ?_)) | (refine iK9 rfl ?_; (first | refine WL.eqlI rfl rfl rfl ?_ | refine WL.eqlS rfl rfl rfl ?_ | refine WL.eqlBool rfl rfl rfl rfl ?_ | refine WL.eqlNilF rfl rfl rfl rfl ?_ | refine WL.eqlNilP rfl rfl rfl rfl ?_ | refine WL.eqlNilSl rfl rfl rfl rfl ?_)) | (refine iK10 rfl ?_; (first | refine WL.neqI rfl rfl rfl ?_ | refine WL.neqS rfl rfl rfl ?_ | refine WL.neqBool rfl rfl rfl rfl ?_ | refine WL.neqNilP rfl rfl rfl rfl ?_ | refine WL.neqNilSl rfl rfl rfl rfl ?_)) | (refine iK11 rfl ?_; (first | refine WL.add64 rfl rfl rfl (by omega) ?_ | refine WL.add32 rfl rfl rfl (by omega) ?_ | refine WL.addu8 rfl rfl rfl (by omega) ?_ | refine WL.addS rfl rfl rfl (by omega) ?_)) | (refine iK12 rfl ?_; (first | refine WL.sub64 rfl rfl rfl (by omega) ?_ | refine WL.sub32 rfl rfl rfl (by omega) ?_ | refine WL.subu8 rfl rfl rfl (by omega) ?_)) | (refine iK13 rfl ?_; (first | refine WL.mul64 rfl rfl rfl (by omega) ?_ | refine WL.mul32 rfl rfl rfl (by omega) ?_)) | (refine iK14 rfl ?_; (first | refine WL.quo64 rfl rfl rfl (by omega) (by omega) ?_ | refine WL.quo32 rfl rfl rfl (by omega) (by omega) ?_)) | (refine iK15 rfl ?_; (first | refine WL.rem64 rfl rfl rfl (by omega) (by omega) ?_ | refine WL.rem32 rfl rfl rfl (by omega) (by omega) ?_ | refine WL.remu64 rfl rfl rfl (by omega) (by omega) ?_)) | (refine iK16 rfl ?_; (first | refine WL.shl rfl rfl rfl rfl rfl ?_)) | (refine iK17 rfl ?_; (first | refine WL.shr rfl rfl rfl rfl rfl ?_)) | (refine iK18 rfl ?_; (first | refine WL.and8 rfl rfl rfl (by omega) (by omega) ?_)) | (refine iK19 rfl ?_; (first | refine WL.or8 rfl rfl rfl (by omega) (by omega) ?_)) | (refine iK20 rfl ?_; (first | refine WL.not rfl rfl ?_)) | (refine iK21 rfl ?_; (first | refine WL.neg64 rfl rfl (by omega) ?_)) | (refine iK22 rfl ?_; (first | refine WL.conv64 rfl rfl rfl rfl (by omega) ?_ | refine WL.conv32 rfl rfl rfl rfl (by omega) ?_ | refine WL.conv8 rfl rfl rfl rfl (by omega) ?_ | refine WL.conv8mod rfl rfl rfl rfl ?_ | refine WL.convu64 rfl rfl rfl rfl (by omega) ?_ | refine WL.convRS rfl rfl rfl rfl ?_ | refine WL.convu64mod rfl rfl rfl rfl ?_ | (refine WL.strBytes rfl rfl rfl rfl rfl ?_; intro zzb zzb) | (refine WL.strRunes rfl rfl rfl rfl rfl ?_; intro zzb zzb))) | (refine iK23 rfl ?_; (first | refine WL.pick_t rfl rfl rfl ?_ | refine WL.pick_f rfl rfl rfl ?_ | refine WL.pickYes rfl (by first | omega | assumption | with_reducible rfl | with_reducible exact ⟨rfl, rfl⟩ | with_reducible exact ⟨rfl, rfl, rfl⟩ | exact ⟨rfl, rfl, rfl, rfl⟩) rfl rfl ?_ | refine WL.pickNo rfl (by first | omega | assumption | with_reducible rfl | with_reducible exact ⟨rfl, rfl⟩ | with_reducible exact ⟨rfl, rfl, rfl⟩ | exact ⟨rfl, rfl, rfl, rfl⟩) rfl rfl ?_ | refine WL.pickNyes rfl (by first | omega | assumption | with_reducible rfl | with_reducible exact ⟨rfl, rfl⟩ | with_reducible exact ⟨rfl, rfl, rfl⟩ | exact ⟨rfl, rfl, rfl, rfl⟩) rfl rfl ?_ | refine WL.pickNno rfl (by first | omega | assumption | with_reducible rfl | with_reducible exact ⟨rfl, rfl⟩ | with_reducible exact ⟨rfl, rfl, rfl⟩ | exact ⟨rfl, rfl, rfl, rfl⟩) rfl rfl ?_ | refine WL.pickIsT rfl (by assumption) rfl rfl ?_ | refine WL.pickIsF rfl (by assumption) rfl rfl ?_)))) | (refine iC rfl ?_; (first | (refine iK24 rfl ?_; (first | refine WL.load rfl (by (first | (apply Loads.one; (· exact rfl); (· first | (apply Cell.blk; (· (repeat (first | exact List.Mem.head _ | apply List.Mem.tail))); (· exact rfl)) | (apply Cell.mem; (· assumption); (· exact rfl)))) | (apply Loads.whole; (· exact rfl); (· exact rfl); (· (repeat (first | exact List.Mem.head _ | apply List.Mem.tail))); (· exact rfl)) | (apply Loads.blk; (· exact rfl); (· exact rfl); (· (repeat (first | exact List.Mem.head _ | apply List.Mem.tail))); (· (repeat (first | exact Seg.nil | (apply Seg.cons; (· exact rfl)))))) | (apply Loads.row; (· (repeat (first | exact List.Mem.head _ | apply List.Mem.tail))); (first | (rotate_left; (· exact rfl); rotate_right; (· assumption)) | ((· assumption); (· exact rfl))); (· exact rfl); (· exact rfl); (· exact rfl)) | (apply Loads.row1; (· (repeat (first | exact List.Mem.head _ | apply List.Mem.tail))); (first | (rotate_left; (· exact rfl); rotate_right; (· assumption)) | ((· assumption); (· exact rfl))); (· exact rfl)) | (apply Loads.rowF; (· (repeat (first | exact List.Mem.head _ | apply List.Mem.tail))); (first | (rotate_left; (· exact rfl); rotate_right; (· assumption)) | ((· assumption); (· exact rfl))); (· exact rfl); (· exact rfl)) | (apply Loads.prow; (· assumption); (first | (rotate_left; (· exact rfl); rotate_right; (· assumption)) | ((· assumption); (· exact rfl))); (· exact rfl); (· exact rfl); (· exact rfl)) | (apply Loads.prow1; (· assumption); (first | (rotate_left; (· exact rfl); rotate_right; (· assumption)) | ((· assumption); (· exact rfl))); (· exact rfl)) | (apply Loads.prowF; (· assumption); (first | (rotate_left; (· exact rfl); rotate_right; (· assumption)) | ((· assumption); (· exact rfl))); (· exact rfl); (· exact rfl)) | (apply Loads.rrow; (· assumption); (first | (rotate_left; (· exact rfl); rotate_right; (· assumption)) | ((· assumption); (· exact rfl))); (· exact rfl); (· exact rfl); (· exact rfl)) | (apply Loads.rrow1; (· assumption); (first | (rotate_left; (· exact rfl); rotate_right; (· assumption)) | ((· assumption); (· exact rfl))); (· exact rfl)) | (apply Loads.rrowF; (· assumption); (first | (rotate_left; (· exact rfl); rotate_right; (· assumption)) | ((· assumption); (· exact rfl))); (· exact rfl); (· exact rfl)) | (apply Loads.rowS; (· (repeat (first | exact List.Mem.head _ | apply List.Mem.tail))); (first | (rotate_left; (· exact rfl); rotate_right; (· assumption)) | ((· assumption); (· exact rfl))); (· exact rfl); (· exact rfl); (· (repeat (first | exact Seg.nil | (apply Seg.cons; (· exact rfl)))))))) (by exact rfl) ?_)) | (refine iK25 rfl ?_; (first | refine WL.fieldAddr0 rfl rfl rfl rfl rfl ?_ | refine WL.fieldAddrR rfl rfl rfl rfl rfl ?_ | refine WL.fieldAddr rfl rfl rfl rfl ?_)) | (refine iK26 rfl ?_; (first | refine WL.indexAddr rfl rfl (by (first | with_reducible exact natz _ | with_reducible exact natz0 | with_reducible exact natz1 | with_reducible exact natz2 | with_reducible exact natz3 | with_reducible exact natz4 | with_reducible exact natz8 | (apply natz_add; (· first | with_reducible exact natz _ | with_reducible exact natz0 | with_reducible exact natz1 | with_reducible exact natz2 | with_reducible exact natz3 | with_reducible exact natz4 | with_reducible exact natz8); (· first | with_reducible exact natz _ | with_reducible exact natz0 | with_reducible exact natz1 | with_reducible exact natz2 | with_reducible exact natz3 | with_reducible exact natz4 | with_reducible exact natz8)) | (apply natz_sub; (· first | with_reducible exact natz _ | with_reducible exact natz0 | with_reducible exact natz1 | with_reducible exact natz2 | with_reducible exact natz3 | with_reducible exact natz4 | with_reducible exact natz8); (· first | with_reducible exact natz _ | with_reducible exact natz0 | with_reducible exact natz1 | with_reducible exact natz2 | with_reducible exact natz3 | with_reducible exact natz4 | with_reducible exact natz8); (· omega)) | exact (Int.toNat_of_nonneg (by omega)).symm)) (by exact rfl) (by exact rfl) (by omega) (by exact rfl) ?_)) | (refine iK27 rfl ?_; (first | refine WL.store rfl rfl rfl rfl rfl (by (repeat (first | exact Repl.here | apply Repl.there))) (by (repeat (first | (apply NF.cons; (· exact rfl)) | exact NF.nil rfl))) (by exact rfl) (by exact .inl rfl) (by exact rfl) ?_ | refine WL.storeRow rfl rfl rfl rfl rfl rfl rfl (by (repeat (first | exact Repl.here | apply Repl.there))) (by first | omega | (simp; omega)) (by exact rfl) ?_ | refine WL.storeRowF rfl rfl rfl rfl rfl rfl rfl (by (repeat (first | exact Repl.here | apply Repl.there))) (by assumption) (by (repeat (first | (apply NF.cons; (· exact rfl)) | exact NF.nil rfl))) (by exact rfl) (by exact rfl) ?_)) | (refine iK28 rfl ?_; (first | (refine WL.alloc rfl rfl rfl ?_; intro zzb))) | (refine iK29 rfl ?_; (first | (refine WL.box rfl rfl rfl ?_; intro zzb))) | (refine iK30 rfl ?_; (first | refine WL.nilCheck rfl rfl ?_ | refine WL.nilCheckFunc rfl rfl ?_)))) | (refine iD rfl ?_; (first | (refine iK31 rfl ?_; (first | refine WL.min2 rfl rfl rfl ?_)) | (refine iK32 rfl ?_; (first | refine WL.max2 rfl rfl rfl ?_)) | (refine iK33 rfl ?_; (first | refine WL.lenS rfl rfl rfl ?_ | refine WL.lenSl rfl rfl rfl ?_)) | (refine iK34 rfl ?_; (first | refine WL.indexS rfl rfl (by (first | with_reducible exact natz _ | with_reducible exact natz0 | with_reducible exact natz1 | with_reducible exact natz2 | with_reducible exact natz3 | with_reducible exact natz4 | with_reducible exact natz8 | (apply natz_add; (· first | with_reducible exact natz _ | with_reducible exact natz0 | with_reducible exact natz1 | with_reducible exact natz2 | with_reducible exact natz3 | with_reducible exact natz4 | with_reducible exact natz8); (· first | with_reducible exact natz _ | with_reducible exact natz0 | with_reducible exact natz1 | with_reducible exact natz2 | with_reducible exact natz3 | with_reducible exact natz4 | with_reducible exact natz8)) | (apply natz_sub; (· first | with_reducible exact natz _ | with_reducible exact natz0 | with_reducible exact natz1 | with_reducible exact natz2 | with_reducible exact natz3 | with_reducible exact natz4 | with_reducible exact natz8); (· first | with_reducible exact natz _ | with_reducible exact natz0 | with_reducible exact natz1 | with_reducible exact natz2 | with_reducible exact natz3 | with_reducible exact natz4 | with_reducible exact natz8); (· omega)) | exact (Int.toNat_of_nonneg (by omega)).symm)) (by exact rfl) (by exact rfl) (by omega) ?_)) | (refine iK35 rfl ?_; (first | refine WL.sliceLH rfl rfl rfl (by (first | with_reducible exact natz _ | with_reducible exact natz0 | with_reducible exact natz1 | with_reducible exact natz2 | with_reducible exact natz3 | with_reducible exact natz4 | with_reducible exact natz8 | (apply natz_add; (· first | with_reducible exact natz _ | with_reducible exact natz0 | with_reducible exact natz1 | with_reducible exact natz2 | with_reducible exact natz3 | with_reducible exact natz4 | with_reducible exact natz8); (· first | with_reducible exact natz _ | with_reducible exact natz0 | with_reducible exact natz1 | with_reducible exact natz2 | with_reducible exact natz3 | with_reducible exact natz4 | with_reducible exact natz8)) | (apply natz_sub; (· first | with_reducible exact natz _ | with_reducible exact natz0 | with_reducible exact natz1 | with_reducible exact natz2 | with_reducible exact natz3 | with_reducible exact natz4 | with_reducible exact natz8); (· first | with_reducible exact natz _ | with_reducible exact natz0 | with_reducible exact natz1 | with_reducible exact natz2 | with_reducible exact natz3 | with_reducible exact natz4 | with_reducible exact natz8); (· omega)) | exact (Int.toNat_of_nonneg (by omega)).symm)) (by (first | with_reducible exact natz _ | with_reducible exact natz0 | with_reducible exact natz1 | with_reducible exact natz2 | with_reducible exact natz3 | with_reducible exact natz4 | with_reducible exact natz8 | (apply natz_add; (· first | with_reducible exact natz _ | with_reducible exact natz0 | with_reducible exact natz1 | with_reducible exact natz2 | with_reducible exact natz3 | with_reducible exact natz4 | with_reducible exact natz8); (· first | with_reducible exact natz _ | with_reducible exact natz0 | with_reducible exact natz1 | with_reducible exact natz2 | with_reducible exact natz3 | with_reducible exact natz4 | with_reducible exact natz8)) | (apply natz_sub; (· first | with_reducible exact natz _ | with_reducible exact natz0 | with_reducible exact natz1 | with_reducible exact natz2 | with_reducible exact natz3 | with_reducible exact natz4 | with_reducible exact natz8); (· first | with_reducible exact natz _ | with_reducible exact natz0 | with_reducible exact natz1 | with_reducible exact natz2 | with_reducible exact natz3 | with_reducible exact natz4 | with_reducible exact natz8); (· omega)) | exact (Int.toNat_of_nonneg (by omega)).symm)) (by exact rfl) (by exact rfl) (by omega) ?_ | refine WL.sliceL rfl rfl (by (first | with_reducible exact natz _ | with_reducible exact natz0 | with_reducible exact natz1 | with_reducible exact natz2 | with_reducible exact natz3 | with_reducible exact natz4 | with_reducible exact natz8 | (apply natz_add; (· first | with_reducible exact natz _ | with_reducible exact natz0 | with_reducible exact natz1 | with_reducible exact natz2 | with_reducible exact natz3 | with_reducible exact natz4 | with_reducible exact natz8); (· first | with_reducible exact natz _ | with_reducible exact natz0 | with_reducible exact natz1 | with_reducible exact natz2 | with_reducible exact natz3 | with_reducible exact natz4 | with_reducible exact natz8)) | (apply natz_sub; (· first | with_reducible exact natz _ | with_reducible exact natz0 | with_reducible exact natz1 | with_reducible exact natz2 | with_reducible exact natz3 | with_reducible exact natz4 | with_reducible exact natz8); (· first | with_reducible exact natz _ | with_reducible exact natz0 | with_reducible exact natz1 | with_reducible exact natz2 | with_reducible exact natz3 | with_reducible exact natz4 | with_reducible exact natz8); (· omega)) | exact (Int.toNat_of_nonneg (by omega)).symm)) (by exact rfl) (by exact rfl) (by omega) ?_ | refine WL.sliceH rfl rfl (by (first | with_reducible exact natz _ | with_reducible exact natz0 | with_reducible exact natz1 | with_reducible exact natz2 | with_reducible exact natz3 | with_reducible exact natz4 | with_reducible exact natz8 | (apply natz_add; (· first | with_reducible exact natz _ | with_reducible exact natz0 | with_reducible exact natz1 | with_reducible exact natz2 | with_reducible exact natz3 | with_reducible exact natz4 | with_reducible exact natz8); (· first | with_reducible exact natz _ | with_reducible exact natz0 | with_reducible exact natz1 | with_reducible exact natz2 | with_reducible exact natz3 | with_reducible exact natz4 | with_reducible exact natz8)) | (apply natz_sub; (· first | with_reducible exact natz _ | with_reducible exact natz0 | with_reducible exact natz1 | with_reducible exact natz2 | with_reducible exact natz3 | with_reducible exact natz4 | with_reducible exact natz8); (· first | with_reducible exact natz _ | with_reducible exact natz0 | with_reducible exact natz1 | with_reducible exact natz2 | with_reducible exact natz3 | with_reducible exact natz4 | with_reducible exact natz8); (· omega)) | exact (Int.toNat_of_nonneg (by omega)).symm)) (by exact rfl) (by exact rfl) (by omega) ?_ | refine WL.slLH rfl rfl rfl (by (first | with_reducible exact natz _ | with_reducible exact natz0 | with_reducible exact natz1 | with_reducible exact natz2 | with_reducible exact natz3 | with_reducible exact natz4 | with_reducible exact natz8 | (apply natz_add; (· first | with_reducible exact natz _ | with_reducible exact natz0 | with_reducible exact natz1 | with_reducible exact natz2 | with_reducible exact natz3 | with_reducible exact natz4 | with_reducible exact natz8); (· first | with_reducible exact natz _ | with_reducible exact natz0 | with_reducible exact natz1 | with_reducible exact natz2 | with_reducible exact natz3 | with_reducible exact natz4 | with_reducible exact natz8)) | (apply natz_sub; (· first | with_reducible exact natz _ | with_reducible exact natz0 | with_reducible exact natz1 | with_reducible exact natz2 | with_reducible exact natz3 | with_reducible exact natz4 | with_reducible exact natz8); (· first | with_reducible exact natz _ | with_reducible exact natz0 | with_reducible exact natz1 | with_reducible exact natz2 | with_reducible exact natz3 | with_reducible exact natz4 | with_reducible exact natz8); (· omega)) | exact (Int.toNat_of_nonneg (by omega)).symm)) (by (first | with_reducible exact natz _ | with_reducible exact natz0 | with_reducible exact natz1 | with_reducible exact natz2 | with_reducible exact natz3 | with_reducible exact natz4 | with_reducible exact natz8 | (apply natz_add; (· first | with_reducible exact natz _ | with_reducible exact natz0 | with_reducible exact natz1 | with_reducible exact natz2 | with_reducible exact natz3 | with_reducible exact natz4 | with_reducible exact natz8); (· first | with_reducible exact natz _ | with_reducible exact natz0 | with_reducible exact natz1 | with_reducible exact natz2 | with_reducible exact natz3 | with_reducible exact natz4 | with_reducible exact natz8)) | (apply natz_sub; (· first | with_reducible exact natz _ | with_reducible exact natz0 | with_reducible exact natz1 | with_reducible exact natz2 | with_reducible exact natz3 | with_reducible exact natz4 | with_reducible exact natz8); (· first | with_reducible exact natz _ | with_reducible exact natz0 | with_reducible exact natz1 | with_reducible exact natz2 | with_reducible exact natz3 | with_reducible exact natz4 | with_reducible exact natz8); (· omega)) | exact (Int.toNat_of_nonneg (by omega)).symm)) (by exact rfl) (by exact rfl) (by exact rfl) (by omega) ?_ | refine WL.slH rfl rfl (by (first | with_reducible exact natz _ | with_reducible exact natz0 | with_reducible exact natz1 | with_reducible exact natz2 | with_reducible exact natz3 | with_reducible exact natz4 | with_reducible exact natz8 | (apply natz_add; (· first | with_reducible exact natz _ | with_reducible exact natz0 | with_reducible exact natz1 | with_reducible exact natz2 | with_reducible exact natz3 | with_reducible exact natz4 | with_reducible exact natz8); (· first | with_reducible exact natz _ | with_reducible exact natz0 | with_reducible exact natz1 | with_reducible exact natz2 | with_reducible exact natz3 | with_reducible exact natz4 | with_reducible exact natz8)) | (apply natz_sub; (· first | with_reducible exact natz _ | with_reducible exact natz0 | with_reducible exact natz1 | with_reducible exact natz2 | with_reducible exact natz3 | with_reducible exact natz4 | with_reducible exact natz8); (· first | with_reducible exact natz _ | with_reducible exact natz0 | with_reducible exact natz1 | with_reducible exact natz2 | with_reducible exact natz3 | with_reducible exact natz4 | with_reducible exact natz8); (· omega)) | exact (Int.toNat_of_nonneg (by omega)).symm)) (by exact rfl) (by exact rfl) (by exact rfl) (by omega) ?_ | refine WL.slL rfl rfl (by (first | with_reducible exact natz _ | with_reducible exact natz0 | with_reducible exact natz1 | with_reducible exact natz2 | with_reducible exact natz3 | with_reducible exact natz4 | with_reducible exact natz8 | (apply natz_add; (· first | with_reducible exact natz _ | with_reducible exact natz0 | with_reducible exact natz1 | with_reducible exact natz2 | with_reducible exact natz3 | with_reducible exact natz4 | with_reducible exact natz8); (· first | with_reducible exact natz _ | with_reducible exact natz0 | with_reducible exact natz1 | with_reducible exact natz2 | with_reducible exact natz3 | with_reducible exact natz4 | with_reducible exact natz8)) | (apply natz_sub; (· first | with_reducible exact natz _ | with_reducible exact natz0 | with_reducible exact natz1 | with_reducible exact natz2 | with_reducible exact natz3 | with_reducible exact natz4 | with_reducible exact natz8); (· first | with_reducible exact natz _ | with_reducible exact natz0 | with_reducible exact natz1 | with_reducible exact natz2 | with_reducible exact natz3 | with_reducible exact natz4 | with_reducible exact natz8); (· omega)) | exact (Int.toNat_of_nonneg (by omega)).symm)) (by exact rfl) (by exact rfl) (by exact rfl) (by omega) ?_)) | (refine iK36 rfl ?_; (first | refine WL.makeFunc rfl rfl rfl ?_)) | (refine iK37 rfl ?_; (first | refine WL.makeIface rfl rfl rfl ?_)) | (refine iK38 rfl ?_; (first | refine WL.build rfl rfl rfl rfl rfl (by (repeat (first | (apply NF.cons; (· exact rfl)) | exact NF.nil rfl))) (by exact rfl) ?_ | refine WL.buildArr rfl rfl rfl rfl rfl rfl (by (repeat (first | (apply NF.cons; (· exact rfl)) | exact NF.nil rfl))) (by exact rfl) ?_)) | (refine iK39 rfl ?_; (first | (refine WL.buildSlice rfl rfl rfl rfl rfl rfl rfl rfl (by (repeat (first | (apply NF.cons; (· exact rfl)) | exact NF.nil rfl))) (by exact rfl) ?_; intro zzb) | (refine WL.buildSlice0 (sz:=1) rfl rfl rfl ?_; intro zzb))) | (refine iK40 rfl ?_; (first | (refine WL.makeRow (sz:=1) (by':=1) (zs:=[.int .u8 0]) rfl rfl (by (first | with_reducible exact natz _ | with_reducible exact natz0 | with_reducible exact natz1 | with_reducible exact natz2 | with_reducible exact natz3 | with_reducible exact natz4 | with_reducible exact natz8 | (apply natz_add; (· first | with_reducible exact natz _ | with_reducible exact natz0 | with_reducible exact natz1 | with_reducible exact natz2 | with_reducible exact natz3 | with_reducible exact natz4 | with_reducible exact natz8); (· first | with_reducible exact natz _ | with_reducible exact natz0 | with_reducible exact natz1 | with_reducible exact natz2 | with_reducible exact natz3 | with_reducible exact natz4 | with_reducible exact natz8)) | (apply natz_sub; (· first | with_reducible exact natz _ | with_reducible exact natz0 | with_reducible exact natz1 | with_reducible exact natz2 | with_reducible exact natz3 | with_reducible exact natz4 | with_reducible exact natz8); (· first | with_reducible exact natz _ | with_reducible exact natz0 | with_reducible exact natz1 | with_reducible exact natz2 | with_reducible exact natz3 | with_reducible exact natz4 | with_reducible exact natz8); (· omega)) | exact (Int.toNat_of_nonneg (by omega)).symm)) (by (first | with_reducible exact natz _ | with_reducible exact natz0 | with_reducible exact natz1 | with_reducible exact natz2 | with_reducible exact natz3 | with_reducible exact natz4 | with_reducible exact natz8 | (apply natz_add; (· first | with_reducible exact natz _ | with_reducible exact natz0 | with_reducible exact natz1 | with_reducible exact natz2 | with_reducible exact natz3 | with_reducible exact natz4 | with_reducible exact natz8); (· first | with_reducible exact natz _ | with_reducible exact natz0 | with_reducible exact natz1 | with_reducible exact natz2 | with_reducible exact natz3 | with_reducible exact natz4 | with_reducible exact natz8)) | (apply natz_sub; (· first | with_reducible exact natz _ | with_reducible exact natz0 | with_reducible exact natz1 | with_reducible exact natz2 | with_reducible exact natz3 | with_reducible exact natz4 | with_reducible exact natz8); (· first | with_reducible exact natz _ | with_reducible exact natz0 | with_reducible exact natz1 | with_reducible exact natz2 | with_reducible exact natz3 | with_reducible exact natz4 | with_reducible exact natz8); (· omega)) | exact (Int.toNat_of_nonneg (by omega)).symm)) (by exact rfl) (by exact rfl) (by exact rfl) (by exact rfl) (by exact rfl) (by exact rfl) (by decide) (by omega) (by omega) (by exact rfl) ?_; intro zzb) | (refine WL.makeRow (sz:=1) (by':=8) (zs:=[.int .i64 0]) rfl rfl (by (first | with_reducible exact natz _ | with_reducible exact natz0 | with_reducible exact natz1 | with_reducible exact natz2 | with_reducible exact natz3 | with_reducible exact natz4 | with_reducible exact natz8 | (apply natz_add; (· first | with_reducible exact natz _ | with_reducible exact natz0 | with_reducible exact natz1 | with_reducible exact natz2 | with_reducible exact natz3 | with_reducible exact natz4 | with_reducible exact natz8); (· first | with_reducible exact natz _ | with_reducible exact natz0 | with_reducible exact natz1 | with_reducible exact natz2 | with_reducible exact natz3 | with_reducible exact natz4 | with_reducible exact natz8)) | (apply natz_sub; (· first | with_reducible exact natz _ | with_reducible exact natz0 | with_reducible exact natz1 | with_reducible exact natz2 | with_reducible exact natz3 | with_reducible exact natz4 | with_reducible exact natz8); (· first | with_reducible exact natz _ | with_reducible exact natz0 | with_reducible exact natz1 | with_reducible exact natz2 | with_reducible exact natz3 | with_reducible exact natz4 | with_reducible exact natz8); (· omega)) | exact (Int.toNat_of_nonneg (by omega)).symm)) (by (first | with_reducible exact natz _ | with_reducible exact natz0 | with_reducible exact natz1 | with_reducible exact natz2 | with_reducible exact natz3 | with_reducible exact natz4 | with_reducible exact natz8 | (apply natz_add; (· first | with_reducible exact natz _ | with_reducible exact natz0 | with_reducible exact natz1 | with_reducible exact natz2 | with_reducible exact natz3 | with_reducible exact natz4 | with_reducible exact natz8); (· first | with_reducible exact natz _ | with_reducible exact natz0 | with_reducible exact natz1 | with_reducible exact natz2 | with_reducible exact natz3 | with_reducible exact natz4 | with_reducible exact natz8)) | (apply natz_sub; (· first | with_reducible exact natz _ | with_reducible exact natz0 | with_reducible exact natz1 | with_reducible exact natz2 | with_reducible exact natz3 | with_reducible exact natz4 | with_reducible exact natz8); (· first | with_reducible exact natz _ | with_reducible exact natz0 | with_reducible exact natz1 | with_reducible exact natz2 | with_reducible exact natz3 | with_reducible exact natz4 | with_reducible exact natz8); (· omega)) | exact (Int.toNat_of_nonneg (by omega)).symm)) (by exact rfl) (by exact rfl) (by exact rfl) (by exact rfl) (by exact rfl) (by exact rfl) (by decide) (by omega) (by omega) (by exact rfl) ?_; intro zzb) | (refine WL.makeRow (sz:=1) (by':=4) (zs:=[.int .i32 0]) rfl rfl (by (first | with_reducible exact natz _ | with_reducible exact natz0 | with_reducible exact natz1 | with_reducible exact natz2 | with_reducible exact natz3 | with_reducible exact natz4 | with_reducible exact natz8 | (apply natz_add; (· first | with_reducible exact natz _ | with_reducible exact natz0 | with_reducible exact natz1 | with_reducible exact natz2 | with_reducible exact natz3 | with_reducible exact natz4 | with_reducible exact natz8); (· first | with_reducible exact natz _ | with_reducible exact natz0 | with_reducible exact natz1 | with_reducible exact natz2 | with_reducible exact natz3 | with_reducible exact natz4 | with_reducible exact natz8)) | (apply natz_sub; (· first | with_reducible exact natz _ | with_reducible exact natz0 | with_reducible exact natz1 | with_reducible exact natz2 | with_reducible exact natz3 | with_reducible exact natz4 | with_reducible exact natz8); (· first | with_reducible exact natz _ | with_reducible exact natz0 | with_reducible exact natz1 | with_reducible exact natz2 | with_reducible exact natz3 | with_reducible exact natz4 | with_reducible exact natz8); (· omega)) | exact (Int.toNat_of_nonneg (by omega)).symm)) (by (first | with_reducible exact natz _ | with_reducible exact natz0 | with_reducible exact natz1 | with_reducible exact natz2 | with_reducible exact natz3 | with_reducible exact natz4 | with_reducible exact natz8 | (apply natz_add; (· first | with_reducible exact natz _ | with_reducible exact natz0 | with_reducible exact natz1 | with_reducible exact natz2 | with_reducible exact natz3 | with_reducible exact natz4 | with_reducible exact natz8); (· first | with_reducible exact natz _ | with_reducible exact natz0 | with_reducible exact natz1 | with_reducible exact natz2 | with_reducible exact natz3 | with_reducible exact natz4 | with_reducible exact natz8)) | (apply natz_sub; (· first | with_reducible exact natz _ | with_reducible exact natz0 | with_reducible exact natz1 | with_reducible exact natz2 | with_reducible exact natz3 | with_reducible exact natz4 | with_reducible exact natz8); (· first | with_reducible exact natz _ | with_reducible exact natz0 | with_reducible exact natz1 | with_reducible exact natz2 | with_reducible exact natz3 | with_reducible exact natz4 | with_reducible exact natz8); (· omega)) | exact (Int.toNat_of_nonneg (by omega)).symm)) (by exact rfl) (by exact rfl) (by exact rfl) (by exact rfl) (by exact rfl) (by exact rfl) (by decide) (by omega) (by omega) (by exact rfl) ?_; intro zzb) | (refine WL.makeRoom (by':=4) rfl rfl rfl (by (first | with_reducible exact natz _ | with_reducible exact natz0 | with_reducible exact natz1 | with_reducible exact natz2 | with_reducible exact natz3 | with_reducible exact natz4 | with_reducible exact natz8 | (apply natz_add; (· first | with_reducible exact natz _ | with_reducible exact natz0 | with_reducible exact natz1 | with_reducible exact natz2 | with_reducible exact natz3 | with_reducible exact natz4 | with_reducible exact natz8); (· first | with_reducible exact natz _ | with_reducible exact natz0 | with_reducible exact natz1 | with_reducible exact natz2 | with_reducible exact natz3 | with_reducible exact natz4 | with_reducible exact natz8)) | (apply natz_sub; (· first | with_reducible exact natz _ | with_reducible exact natz0 | with_reducible exact natz1 | with_reducible exact natz2 | with_reducible exact natz3 | with_reducible exact natz4 | with_reducible exact natz8); (· first | with_reducible exact natz _ | with_reducible exact natz0 | with_reducible exact natz1 | with_reducible exact natz2 | with_reducible exact natz3 | with_reducible exact natz4 | with_reducible exact natz8); (· omega)) | exact (Int.toNat_of_nonneg (by omega)).symm)) (by exact rfl) (by exact rfl) (by exact rfl) (by exact rfl) (by omega) (by omega) (by exact rfl) ?_; intro zzb) | (refine WL.makeRoom (by':=8) rfl rfl rfl (by (first | with_reducible exact natz _ | with_reducible exact natz0 | with_reducible exact natz1 | with_reducible exact natz2 | with_reducible exact natz3 | with_reducible exact natz4 | with_reducible exact natz8 | (apply natz_add; (· first | with_reducible exact natz _ | with_reducible exact natz0 | with_reducible exact natz1 | with_reducible exact natz2 | with_reducible exact natz3 | with_reducible exact natz4 | with_reducible exact natz8); (· first | with_reducible exact natz _ | with_reducible exact natz0 | with_reducible exact natz1 | with_reducible exact natz2 | with_reducible exact natz3 | with_reducible exact natz4 | with_reducible exact natz8)) | (apply natz_sub; (· first | with_reducible exact natz _ | with_reducible exact natz0 | with_reducible exact natz1 | with_reducible exact natz2 | with_reducible exact natz3 | with_reducible exact natz4 | with_reducible exact natz8); (· first | with_reducible exact natz _ | with_reducible exact natz0 | with_reducible exact natz1 | with_reducible exact natz2 | with_reducible exact natz3 | with_reducible exact natz4 | with_reducible exact natz8); (· omega)) | exact (Int.toNat_of_nonneg (by omega)).symm)) (by exact rfl) (by exact rfl) (by exact rfl) (by exact rfl) (by omega) (by omega) (by exact rfl) ?_; intro zzb) | (refine WL.makeRoom (by':=1) rfl rfl rfl (by (first | with_reducible exact natz _ | with_reducible exact natz0 | with_reducible exact natz1 | with_reducible exact natz2 | with_reducible exact natz3 | with_reducible exact natz4 | with_reducible exact natz8 | (apply natz_add; (· first | with_reducible exact natz _ | with_reducible exact natz0 | with_reducible exact natz1 | with_reducible exact natz2 | with_reducible exact natz3 | with_reducible exact natz4 | with_reducible exact natz8); (· first | with_reducible exact natz _ | with_reducible exact natz0 | with_reducible exact natz1 | with_reducible exact natz2 | with_reducible exact natz3 | with_reducible exact natz4 | with_reducible exact natz8)) | (apply natz_sub; (· first | with_reducible exact natz _ | with_reducible exact natz0 | with_reducible exact natz1 | with_reducible exact natz2 | with_reducible exact natz3 | with_reducible exact natz4 | with_reducible exact natz8); (· first | with_reducible exact natz _ | with_reducible exact natz0 | with_reducible exact natz1 | with_reducible exact natz2 | with_reducible exact natz3 | with_reducible exact natz4 | with_reducible exact natz8); (· omega)) | exact (Int.toNat_of_nonneg (by omega)).symm)) (by exact rfl) (by exact rfl) (by exact rfl) (by exact rfl) (by omega) (by omega) (by exact rfl) ?_; intro zzb) | (refine WL.makeRoom (by':=24) rfl rfl rfl (by (first | with_reducible exact natz _ | with_reducible exact natz0 | with_reducible exact natz1 | with_reducible exact natz2 | with_reducible exact natz3 | with_reducible exact natz4 | with_reducible exact natz8 | (apply natz_add; (· first | with_reducible exact natz _ | with_reducible exact natz0 | with_reducible exact natz1 | with_reducible exact natz2 | with_reducible exact natz3 | with_reducible exact natz4 | with_reducible exact natz8); (· first | with_reducible exact natz _ | with_reducible exact natz0 | with_reducible exact natz1 | with_reducible exact natz2 | with_reducible exact natz3 | with_reducible exact natz4 | with_reducible exact natz8)) | (apply natz_sub; (· first | with_reducible exact natz _ | with_reducible exact natz0 | with_reducible exact natz1 | with_reducible exact natz2 | with_reducible exact natz3 | with_reducible exact natz4 | with_reducible exact natz8); (· first | with_reducible exact natz _ | with_reducible exact natz0 | with_reducible exact natz1 | with_reducible exact natz2 | with_reducible exact natz3 | with_reducible exact natz4 | with_reducible exact natz8); (· omega)) | exact (Int.toNat_of_nonneg (by omega)).symm)) (by exact rfl) (by exact rfl) (by exact rfl) (by exact rfl) (by omega) (by omega) (by exact rfl) ?_; intro zzb) | (refine WL.makeRoom (by':=16) rfl rfl rfl (by (first | with_reducible exact natz _ | with_reducible exact natz0 | with_reducible exact natz1 | with_reducible exact natz2 | with_reducible exact natz3 | with_reducible exact natz4 | with_reducible exact natz8 | (apply natz_add; (· first | with_reducible exact natz _ | with_reducible exact natz0 | with_reducible exact natz1 | with_reducible exact natz2 | with_reducible exact natz3 | with_reducible exact natz4 | with_reducible exact natz8); (· first | with_reducible exact natz _ | with_reducible exact natz0 | with_reducible exact natz1 | with_reducible exact natz2 | with_reducible exact natz3 | with_reducible exact natz4 | with_reducible exact natz8)) | (apply natz_sub; (· first | with_reducible exact natz _ | with_reducible exact natz0 | with_reducible exact natz1 | with_reducible exact natz2 | with_reducible exact natz3 | with_reducible exact natz4 | with_reducible exact natz8); (· first | with_reducible exact natz _ | with_reducible exact natz0 | with_reducible exact natz1 | with_reducible exact natz2 | with_reducible exact natz3 | with_reducible exact natz4 | with_reducible exact natz8); (· omega)) | exact (Int.toNat_of_nonneg (by omega)).symm)) (by exact rfl) (by exact rfl) (by exact rfl) (by exact rfl) (by omega) (by omega) (by exact rfl) ?_; intro zzb) | (refine WL.makeRoom (by':=40) rfl rfl rfl (by (first | with_reducible exact natz _ | with_reducible exact natz0 | with_reducible exact natz1 | with_reducible exact natz2 | with_reducible exact natz3 | with_reducible exact natz4 | with_reducible exact natz8 | (apply natz_add; (· first | with_reducible exact natz _ | with_reducible exact natz0 | with_reducible exact natz1 | with_reducible exact natz2 | with_reducible exact natz3 | with_reducible exact natz4 | with_reducible exact natz8); (· first | with_reducible exact natz _ | with_reducible exact natz0 | with_reducible exact natz1 | with_reducible exact natz2 | with_reducible exact natz3 | with_reducible exact natz4 | with_reducible exact natz8)) | (apply natz_sub; (· first | with_reducible exact natz _ | with_reducible exact natz0 | with_reducible exact natz1 | with_reducible exact natz2 | with_reducible exact natz3 | with_reducible exact natz4 | with_reducible exact natz8); (· first | with_reducible exact natz _ | with_reducible exact natz0 | with_reducible exact natz1 | with_reducible exact natz2 | with_reducible exact natz3 | with_reducible exact natz4 | with_reducible exact natz8); (· omega)) | exact (Int.toNat_of_nonneg (by omega)).symm)) (by exact rfl) (by exact rfl) (by exact rfl) (by exact rfl) (by omega) (by omega) (by exact rfl) ?_; intro zzb))) | (refine iK41 rfl ?_; (first | (refine WL.rangeS rfl rfl rfl ?_; intro zzb))) | (refine iK42 rfl ?_; (first | refine WL.nextS rfl (by (repeat (first | exact Repl.here | apply Repl.there))) (by first | omega | (simp; omega)) (by exact rfl) ?_ | refine WL.nextEnd rfl (by (repeat (first | exact Out.here | apply Out.there))) (by first | omega | (simp; omega)) (by exact rfl) ?_)) | (refine iK43 rfl ?_; (first | (refine WL.append1 (by':=24) rfl rfl rfl rfl (by (repeat (first | exact Out.here | apply Out.there))) (by (repeat (first | exact List.Mem.head _ | apply List.Mem.tail))) (by exact rfl) (by exact rfl) (by exact rfl) (by exact rfl) (by exact rfl) (by exact rfl) (by first | exact rfl | (simp; done) | omega) (by first | omega | (simp; omega)) (by decide) (by exact rfl) ?_; intro zzb zzb) | (refine WL.append1 (by':=8) rfl rfl rfl rfl (by (repeat (first | exact Out.here | apply Out.there))) (by (repeat (first | exact List.Mem.head _ | apply List.Mem.tail))) (by exact rfl) (by exact rfl) (by exact rfl) (by exact rfl) (by exact rfl) (by exact rfl) (by first | exact rfl | (simp; done) | omega) (by first | omega | (simp; omega)) (by decide) (by exact rfl) ?_; intro zzb zzb) | (refine WL.append1 (by':=4) rfl rfl rfl rfl (by (repeat (first | exact Out.here | apply Out.there))) (by (repeat (first | exact List.Mem.head _ | apply List.Mem.tail))) (by exact rfl) (by exact rfl) (by exact rfl) (by exact rfl) (by exact rfl) (by exact rfl) (by first | exact rfl | (simp; done) | omega) (by first | omega | (simp; omega)) (by decide) (by exact rfl) ?_; intro zzb zzb) | (refine WL.append1 (by':=1) rfl rfl rfl rfl (by (repeat (first | exact Out.here | apply Out.there))) (by (repeat (first | exact List.Mem.head _ | apply List.Mem.tail))) (by exact rfl) (by exact rfl) (by exact rfl) (by exact rfl) (by exact rfl) (by exact rfl) (by first | exact rfl | (simp; done) | omega) (by first | omega | (simp; omega)) (by decide) (by exact rfl) ?_; intro zzb zzb) | (refine WL.append1 (by':=16) rfl rfl rfl rfl (by (repeat (first | exact Out.here | apply Out.there))) (by (repeat (first | exact List.Mem.head _ | apply List.Mem.tail))) (by exact rfl) (by exact rfl) (by exact rfl) (by exact rfl) (by exact rfl) (by exact rfl) (by first | exact rfl | (simp; done) | omega) (by first | omega | (simp; omega)) (by decide) (by exact rfl) ?_; intro zzb zzb) | (refine WL.append1 (by':=40) rfl rfl rfl rfl (by (repeat (first | exact Out.here | apply Out.there))) (by (repeat (first | exact List.Mem.head _ | apply List.Mem.tail))) (by exact rfl) (by exact rfl) (by exact rfl) (by exact rfl) (by exact rfl) (by exact rfl) (by first | exact rfl | (simp; done) | omega) (by first | omega | (simp; omega)) (by decide) (by exact rfl) ?_; intro zzb zzb) | (refine WL.append1 (by':=32) rfl rfl rfl rfl (by (repeat (first | exact Out.here | apply Out.there))) (by (repeat (first | exact List.Mem.head _ | apply List.Mem.tail))) (by exact rfl) (by exact rfl) (by exact rfl) (by exact rfl) (by exact rfl) (by exact rfl) (by first | exact rfl | (simp; done) | omega) (by first | omega | (simp; omega)) (by decide) (by exact rfl) ?_; intro zzb zzb) | (refine WL.append1 (by':=48) rfl rfl rfl rfl (by (repeat (first | exact Out.here | apply Out.there))) (by (repeat (first | exact List.Mem.head _ | apply List.Mem.tail))) (by exact rfl) (by exact rfl) (by exact rfl) (by exact rfl) (by exact rfl) (by exact rfl) (by first | exact rfl | (simp; done) | omega) (by first | omega | (simp; omega)) (by decide) (by exact rfl) ?_; intro zzb zzb) | (refine WL.appendS rfl rfl rfl rfl (by (repeat (first | exact Out.here | apply Out.there))) (by exact rfl) (by exact rfl) (by exact rfl) (by exact rfl) (by first | exact rfl | (simp; done) | omega) (by omega) (by exact rfl) ?_; intro zzb zzb))))))) | refine WL.nil ?_ | (refine iG ?_; (first | refine WL.on rfl rfl ?_ | refine WL.off rfl rfl rfl rfl ?_ | refine WL.off' rfl rfl rfl ?_ | refine WL.offU rfl rfl rfl ?_ | refine WL.gyes rfl rfl (by first | omega | assumption | with_reducible rfl | with_reducible exact ⟨rfl, rfl⟩ | with_reducible exact ⟨rfl, rfl, rfl⟩ | exact ⟨rfl, rfl, rfl, rfl⟩) ?_ | refine WL.gno rfl rfl (by first | omega | assumption | with_reducible rfl | with_reducible exact ⟨rfl, rfl⟩ | with_reducible exact ⟨rfl, rfl, rfl⟩ | exact ⟨rfl, rfl, rfl, rfl⟩) ?_ | refine WL.gnyes rfl rfl (by first | omega | assumption | with_reducible rfl | with_reducible exact ⟨rfl, rfl⟩ | with_reducible exact ⟨rfl, rfl, rfl⟩ | exact ⟨rfl, rfl, rfl, rfl⟩) ?_ | refine WL.gnno rfl rfl (by first | omega | assumption | with_reducible rfl | with_reducible exact ⟨rfl, rfl⟩ | with_reducible exact ⟨rfl, rfl, rfl⟩ | exact ⟨rfl, rfl, rfl, rfl⟩) ?_ | refine WL.gis (k:=true) rfl rfl (by assumption) ?_ | refine WL.gis (k:=false) rfl rfl (by assumption) ?_)))) | (refine iWC ?_; (first | refine WC.seq ?_ | refine WC.region ?_ | refine WC.block ?_ | refine WC.ret ?_ | refine WC.skip ?_ | refine WC.exit ?_ | refine WC.cond_t rfl ?_ | refine WC.cond_f rfl ?_ | refine WC.yes rfl (by first | omega | assumption | with_reducible rfl | with_reducible exact ⟨rfl, rfl⟩ | with_reducible exact ⟨rfl, rfl, rfl⟩ | exact ⟨rfl, rfl, rfl, rfl⟩) ?_ | refine WC.no rfl (by first | omega | assumption | with_reducible rfl | with_reducible exact ⟨rfl, rfl⟩ | with_reducible exact ⟨rfl, rfl, rfl⟩ | exact ⟨rfl, rfl, rfl, rfl⟩) ?_ | refine WC.nyes rfl (by first | omega | assumption | with_reducible rfl | with_reducible exact ⟨rfl, rfl⟩ | with_reducible exact ⟨rfl, rfl, rfl⟩ | exact ⟨rfl, rfl, rfl, rfl⟩) ?_ | refine WC.nno rfl (by first | omega | assumption | with_reducible rfl | with_reducible exact ⟨rfl, rfl⟩ | with_reducible exact ⟨rfl, rfl, rfl⟩ | exact ⟨rfl, rfl, rfl, rfl⟩) ?_ | refine WC.is_t rfl (by assumption) ?_ | refine WC.is_f rfl (by assumption) ?_ | refine WC.scope ?_ | refine WC.label ?_)) | (refine iWQ ?_; (first | refine WQ.norm ?_ | refine WQ.thenRet ?_ | refine WQ.thenExit ?_ | refine WQ.blockNorm ?_ | refine WQ.blockRet ?_ | refine WQ.blockSame ?_ | refine WQ.blockOther rfl ?_ | refine WQ.loopExit ?_ | refine WQ.loopRet ?_ | refine WQ.joinRet ?_ | refine WQ.joinExit ?_ | refine WQ.scopeNorm ?_ | refine WQ.scopeRet ?_ | refine WQ.scopeExit ?_)) | ((refine iDraw ?_; (first | refine WC.drawAll rfl (by decide +kernel) ?_ | refine WC.draw 1 rfl (by decide +kernel) ?_ | refine WC.draw 2 rfl (by decide +kernel) ?_ | refine WC.draw 3 rfl (by decide +kernel) ?_ | refine WC.draw 4 rfl (by decide +kernel) ?_ | refine WC.draw 5 rfl (by decide +kernel) ?_ | refine WC.draw 6 rfl (by decide +kernel) ?_ | refine WC.draw 7 rfl (by decide +kernel) ?_ | refine WC.draw 8 rfl (by decide +kernel) ?_ | refine WC.draw 9 rfl (by decide +kernel) ?_ | refine WC.draw 10 rfl (by decide +kernel) ?_ | refine WC.draw 11 rfl (by decide +kernel) ?_ | refine WC.draw 12 rfl (by decide +kernel) ?_ | refine WC.draw 13 rfl (by decide +kernel) ?_ | refine WC.draw 14 rfl (by decide +kernel) ?_ | refine WC.draw 15 rfl (by decide +kernel) ?_ | refine WC.draw 16 rfl (by decide +kernel) ?_ | refine WC.draw 17 rfl (by decide +kernel) ?_ | refine WC.draw 18 rfl (by decide +kernel) ?_ | refine WC.draw 19 rfl (by decide +kernel) ?_ | refine WC.draw 20 rfl (by decide +kernel) ?_ | refine WC.draw 21 rfl (by decide +kernel) ?_ | refine WC.draw 22 rfl (by decide +kernel) ?_ | refine WC.draw 23 rfl (by decide +kernel) ?_ | refine WC.draw 24 rfl (by decide +kernel) ?_)); (repeat (refine WD.cons rfl (fun c h => by cases h) (by (repeat (first | (refine sp ?_; (repeat intro zzb)))); exact WQ.q1 rfl) ?_)); refine WD.nil ?_))); (repeat revert zzb); exact zzn.out) : G := h ⟨next⟩

section
variable {w0 : World} {m : Mem} {H H' : SHeap}
theorem zpk (h : Pick H H' := by iterate 60 (try (first | exact Pick.all | (apply Pick.take; (· (repeat (first | exact Out.here | apply Out.there)))) | apply Pick.drop))) : ∀ w, Sat w0 m H w → Sat w0 m H' w := fun _ hs => Pick.sat h hs
theorem zhs {i : Item} (h : i ∈ H := by (repeat (first | exact List.Mem.head _ | apply List.Mem.tail))) : i ∈ H := h
theorem zsb {r r' : Env} (h : Env.Sub r' r := by (repeat (first | exact Env.Sub.nil | refine Env.Sub.cons rfl ?_))) : Env.Sub r' r := h
end
end Go.Eng

