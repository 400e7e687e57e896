/-
  A walk's engine, sixteenth part: how a law's arguments are read, ahead of the call and behind it. No condition.
-/
import Derived.Test.YtdmdabjaboigcaaEngP
import Derived.ChangeMaps5
import Derived.ReadAgain
import Derived.ChangeBook
import Derived.Deep.Slices
import Derived.WalkKit
import Derived.ProofKit
import Derived.OpenShut
import Derived.JoinedCond
set_option linter.all false
namespace Go.Eng
open Go Go.RowKit Go.ChangeShapes Go.WideShapes Go.ChangeMaps
section
variable {H : Type} {enc : TypeId × Value → H} {P : Program}
theorem same_below {W W' : World} (hb : Below W.heap.size W W') {p : MemPlace} (hp : p.block < W.heap.size) : W.sameAt W' p := by
  cases p with
  | cell b off =>
    have h := hb.block b hp
    show W'.cell? ⟨b, off, none⟩ = W.cell? ⟨b, off, none⟩
    simp only [World.cell?, h]
  | map b => exact hb.block b hp
theorem trod_again {W W' : World} {sp : Nat → Bool} {t : TypeId} {v : Value} {d : DataW H} {p : List MemPlace} (hl : laidOutB P = true) (ht : t < P.types.size) (hr : P.readableRec t = true)
    (h : DataW.Trod enc P W 0 (fun _ => true) true t v d p) (hlt : ∀ q ∈ p, q.block < W.heap.size) (hb : Below W.heap.size W W') (hs : ∀ q ∈ p, sp q.block = true) : DataW.Trod enc P W' 0 sp true t v d p := by
  obtain ⟨n, hn⟩ := h
  have h1 := DataW.trod_carry (w' := W') n _ _ _ hn (fun q hq => same_below hb (hlt q hq))
  exact ⟨n, DataW.trod_respare (kids_book hl hr) (fun t e hT hu => book_sized hr hT hu) n _ _ _ ⟨ht, book_self t⟩ h1 hs⟩
theorem args_again {W W' : World} {sp : Nat → Bool} (hl : laidOutB P = true) (hb : Below W.heap.size W W') : ∀ {ts : List TypeId} {vs : List Value} {ds : List (DataW H)} {p : List MemPlace},
    (∀ t ∈ ts, t < P.types.size ∧ P.readableRec t = true) → DataW.TrodAll enc P W 0 (fun _ => true) true ts vs ds p → (∀ q ∈ p, sp q.block = true) → DataW.TrodAll enc P W' 0 sp true ts vs ds p
  | [], [], [], _, _, h, _ => h
  | t :: ts, v :: vs, d :: ds, p, hts, h, hs => by
    have hlt := DataW.TrodAll.lt h
    obtain ⟨a, b, h1, h2, e⟩ := h
    subst e
    obtain ⟨g1, g2⟩ := hts t List.mem_cons_self
    exact ⟨a, b, trod_again hl g1 g2 h1 (fun q hq => hlt q (List.mem_append_left _ hq)) hb (fun q hq => hs q (List.mem_append_left _ hq)),
      args_again hl hb (fun t ht => hts t (List.mem_cons_of_mem _ ht)) h2 (fun q hq => hs q (List.mem_append_right _ hq)), rfl⟩
/-- a law that says true, and leaves all that it was handed -/
theorem post_true {f : Func} {s : ChangeSpec} {apart fresh handsOn again : Bool} {W W' : World} {args : Array Value} {ds gs : List (DataW H)} {before : List MemPlace} {tb : TypeId}
    (hW : DataW.Whole enc P f.params.toList s.vars apart W args.toList ds gs before) (hvars : s.vars = []) (hfn : s.fn H (ds ++ gs) = { results := [.lit (.bool true)], args := ds })
    (hres : f.resultTypes = #[tb]) (htb : P.underlying tb = some .bool) (hl : laidOutB P = true) (hts : (f.params.toList.all fun t => decide (t < P.types.size) && P.readableRec t) = true) (hb : Below W.heap.size W W') :
    s.post enc P f apart fresh handsOn again W args (.bool true) W' := by
  have hW2 := hW
  obtain ⟨p, q, hA, hV, e, _, _⟩ := hW
  rw [hvars] at hV
  obtain ⟨rfl, rfl⟩ := trodVars_none hV
  rw [List.append_nil] at e
  subst e
  have hts' : ∀ t ∈ f.params.toList, t < P.types.size ∧ P.readableRec t = true := fun t ht => by simpa using List.all_eq_true.1 hts t ht
  refine post_below (pa := before) (pv := []) hW2 (fun _ _ _ => ?_) (fun sp hs => ?_) (fun _ _ => ?_) (by simp) hb ?_
  · rw [hfn, hres]; exact trodAll_cons_mk (shut_bool htb _) trodAll_mk0
  · rw [hfn]; exact args_again hl hb hts' hA hs
  · rw [hfn, hvars]; rfl
  · intro j t r h1 h2
    rw [hres] at h1 h2
    match j, h1 with
    | 0, h1 =>
      simp at h1; subst h1
      simp [Value.resultList] at h2
      subst h2
      exact okWide_bool_mk htb _
/-- a slice that came in, of elements of one cell -/
theorem RowR.came {w0 W : World} {Hp : SHeap} {sz : Nat} {a : Option Addr} {es : List (List Value)} (h1 : ∀ e ∈ es, e.length = sz)
    (h2 : match a with | .none => es = [] | .some b => ∀ j v, es.flatten[j]? = .some v → W.cell? (b.add j) = .some v) : RowR w0 (memOf W) Hp sz a es := by
  intro w hs
  refine ⟨h1, ?_⟩
  cases a with
  | none => exact h2
  | some b =>
    intro j v hj
    have hc := h2 j v hj
    generalize b.add j = c at hc ⊢
    obtain ⟨b, o, s⟩ := c
    cases hh : W.heap[b]? with
    | none => cases s <;> simp [World.cell?, hh] at hc
    | some ob =>
      have := hs.pers b ob hh
      cases s <;> simpa [World.cell?, this, hh] using hc
theorem at_map {α : Type} {f : α → Value} {l : List α} {j : Nat} {v : Value} (h : (l.map fun x => [f x]).flatten[j]? = .some v) : ∃ x, l[j]? = .some x ∧ v = f x := by
  rw [flatten_single, List.getElem?_map] at h
  obtain ⟨x, h1, h2⟩ := Option.map_eq_some_iff.1 h
  exact ⟨x, h1, h2.symm⟩
/-- slices of elements of one cell -/
theorem open_ones {α : Type} [Inhabited α] (val : α → Value) (lit : α → Lit) {W : World} {r : Reach} {b0 : Nat} {t e : TypeId} {v : Value} {d : DataW H} {ps : List MemPlace} (ht : P.underlying t = some (.slice e)) (hc : P.cellsOf e = 1)
    (hone : ∀ (n : Nat) (u : Value) (y : DataW H × List MemPlace), DataW.trod enc P W 0 (fun _ => true) true n e [u] = some y → ∃ x, u = val x ∧ y.1 = .lit (lit x) ∧ (lit x).wf = true)
    (hval : Value.okWide P W r b0 t v) (h : DataW.Trod enc P W 0 (fun _ => true) true t v d ps) : ∃ (a : Option Addr) (cap : Nat) (ns : List α) (spare : List (DataW H)), v = .slice a ns.length cap ∧ ns.length ≤ cap ∧ (∀ x ∈ ns, (lit x).wf = true) ∧
      (d = .nil ∧ ns = [] ∨ d = .slice (ns.map fun x => .lit (lit x)) spare) ∧ (ns ≠ [] ∨ cap = 0 ∨ True) ∧ ∀ w0 Hp, RowR w0 (memOf W) Hp 1 a (ns.map fun x => [val x]) := by
  obtain ⟨a, len, cap, rfl⟩ := okWide_slice ht hval
  obtain ⟨n, hn⟩ := h
  rcases Deep.open_slice1 ht hc hn with ⟨h1, h2⟩ | ⟨a', len', cap', m, n', V, D, Pl, h1, _, hle, _, hm, h2, hx⟩
  · simp [Value.cells] at h1
    obtain ⟨rfl, rfl, rfl⟩ := h1
    exact ⟨none, 0, [], [], rfl, Nat.le_refl _, (by simp), .inl ⟨congrArg Prod.fst h2, rfl⟩, .inr (.inr trivial), fun _ _ => RowR.nil⟩
  · simp [Value.cells] at h1
    obtain ⟨rfl, rfl, rfl⟩ := h1
    simp only [if_true] at hm
    subst hm
    obtain ⟨X, hX⟩ := Deep.choose_lt (α := α) (n := m) (p := fun i x => V i = val x ∧ D i = .lit (lit x) ∧ (lit x).wf = true) (fun i hi => by
      obtain ⟨_, g⟩ := hx i hi
      exact hone _ _ _ g)
    refine ⟨some a', m, (List.range len).map X, (List.range (m - len)).map fun j => D (len + j), by simp, by simpa using hle, ?_, .inr ?_, .inr (.inr trivial), fun w0 Hp => ?_⟩
    · intro x hxm
      obtain ⟨i, hi, rfl⟩ := List.mem_map.1 hxm
      exact (hX i (by have := List.mem_range.1 hi; omega)).2.2
    · have := congrArg Prod.fst h2
      simp only at this
      rw [this, List.map_map]
      congr 1
      exact List.map_congr_left fun i hi => (hX i (by have := List.mem_range.1 hi; omega)).2.1
    · refine RowR.came (by simp) ?_
      intro j v hj
      obtain ⟨x, hx1, rfl⟩ := at_map hj
      rw [List.getElem?_map] at hx1
      obtain ⟨i, hi, rfl⟩ := Option.map_eq_some_iff.1 hx1
      obtain ⟨hjl, rfl⟩ := List.getElem?_eq_some_iff.1 hi
      rw [List.getElem_range]
      have hjl' : j < len := by simpa using hjl
      rw [← (hX j (by omega)).1]
      exact (hx j (by omega)).1
theorem open_nums {W : World} {r : Reach} {b0 : Nat} {t e : TypeId} {k : IntKind} {v : Value} {d : DataW H} {ps : List MemPlace} (ht : P.underlying t = some (.slice e)) (he : P.underlying e = some (.int k)) (hc : P.cellsOf e = 1)
    (hval : Value.okWide P W r b0 t v) (h : DataW.Trod enc P W 0 (fun _ => true) true t v d ps) : ∃ (a : Option Addr) (cap : Nat) (ns : List Int) (spare : List (DataW H)), v = .slice a ns.length cap ∧ ns.length ≤ cap ∧ (∀ x ∈ ns, (Lit.int k x).wf = true) ∧
      (d = .nil ∧ ns = [] ∨ d = .slice (ns.map fun x => .lit (.int k x)) spare) ∧ ∀ w0 Hp, RowR w0 (memOf W) Hp 1 a (ns.map fun x => [Value.int k x]) := by
  obtain ⟨a, cap, ns, sp, h1, h2, h3, h4, _, h5⟩ := open_ones (Value.int k) (Lit.int k) ht hc (fun n u y hy => by
    obtain ⟨x, hx, hy', hw⟩ := DataW.trod_int he hy
    simp at hx
    exact ⟨x, hx, congrArg Prod.fst hy', hw⟩) hval h
  exact ⟨a, cap, ns, sp, h1, h2, h3, h4, h5⟩
theorem open_texts {W : World} {r : Reach} {b0 : Nat} {t e : TypeId} {v : Value} {d : DataW H} {ps : List MemPlace} (ht : P.underlying t = some (.slice e)) (he : P.underlying e = some .string) (hc : P.cellsOf e = 1)
    (hval : Value.okWide P W r b0 t v) (h : DataW.Trod enc P W 0 (fun _ => true) true t v d ps) : ∃ (a : Option Addr) (cap : Nat) (ns : List (List UInt8)) (spare : List (DataW H)), v = .slice a ns.length cap ∧ ns.length ≤ cap ∧
      (d = .nil ∧ ns = [] ∨ d = .slice (ns.map fun x => .lit (.string x)) spare) ∧ ∀ w0 Hp, RowR w0 (memOf W) Hp 1 a (ns.map fun x => [str x]) := by
  obtain ⟨a, cap, ns, sp, h1, h2, h3, h4, _, h5⟩ := open_ones (α := List UInt8) str Lit.string ht hc (fun n u y hy => by
    obtain ⟨x, hx, hy', hw⟩ := DataW.trod_string he hy
    simp at hx
    refine ⟨x.data.toList, by rw [hx], congrArg Prod.fst hy', ?_⟩
    simpa [Lit.wf] using hw) hval h
  exact ⟨a, cap, ns, sp, h1, h2, h4, h5⟩
end
end Go.Eng
