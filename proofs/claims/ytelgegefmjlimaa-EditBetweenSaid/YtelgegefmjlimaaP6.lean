/-
  Parts of a walk, joined: EngT EngQ ET1 ET2 ET3 ET4 ET5 ET6 E1. No condition.
-/
import Derived.Test.YtelgegefmjlimaaP4
import Derived.Test.YtelgegefmjlimaaP5
import Derived.Test.YtelgegefmjlimaaP3
import Derived.ChangeMaps5
import Derived.ReadAgain
import Derived.ChangeBook
import Derived.Deep.Slices
import Derived.WalkKit
import Derived.ProofKit
import Derived.OpenShut
import Derived.JoinedCond
import Derived.Test.YtelgegefmjlimaaP1
import Derived.Test.YtelgegefmjlimaaProg
/-
  A walk's engine, nineteenth part: arrays by their address: elements, slices of them, and what is copied there. No condition.
-/
set_option linter.all false
namespace Go.Eng
open Go Go.RowKit
section
variable {P : Program} {ro : Option Nat} {n : Nat} {w0 : World} {Q : Exit → Act → World → Prop} {r : Env} {ds : List Nat} {m : Mem} {H : SHeap}
  {ops : Array Oper} {l : List Oper} {d : Nat} {ty : TypeId} {pos : String} {after : Array Edge} {t t' : TypeId} {x y : Operand}
theorem WL.indexAddrA {e : TypeId} {b o k sz i q : Nat} {ki : IntKind} {z : Int} (hx : r.ev x = some (.pointer (some ⟨b, o, none⟩))) (hy : r.ev y = some (.int ki z)) (hz : z = (i : Int)) (hu : P.underlying t = some (.array k e)) (hsz : sizeB P e = some sz)
    (hi : i < k) (hd : Nat.blt d n = true) (hq : lit (o + i * sz) = some q) (h : WL P ro n w0 ops Q l ((d, .pointer (some ⟨b, q, none⟩)) :: r) ds m H) :
    WL P ro n w0 ops Q (⟨some d, .indexAddr t x y, ty, pos, after, none⟩ :: l) r ds m H := by
  rw [lit_eq] at hq
  have hq := Option.some.inj hq
  subst hz; subst hq
  refine .val hd (fun _ h => by cases h) (fun tmps w ho _ => ?_) h
  have h1 : (0 : Int) ≤ (i : Int) ∧ (i : Int) < (k : Int) := by omega
  simp only [execOp, Instr.indexAt, asIntOf, Instr.sureAddr, ho.ev hx, ho.ev hy, Sem.run_bind, Sem.run_pure, Result.andThen_ok, run_underlying hu]
  simp [h1, run_size hsz, add_none]
theorem WL.slArrH {e : TypeId} {b o k sz q : Nat} {kh : IntKind} {hi : Operand} {j : Int} (hx : r.ev x = some (.pointer (some ⟨b, o, none⟩))) (hh : r.ev hi = some (.int kh j)) (hj : j = (q : Int)) (hu : P.underlying t = some (.array k e)) (hsz : sizeB P e = some sz)
    (hd : Nat.blt d n = true) (hb : q ≤ k) (h : WL P ro n w0 ops Q l ((d, .slice (some ⟨b, o, none⟩) q k) :: r) ds m H) :
    WL P ro n w0 ops Q (⟨some d, .slice t x none (some hi) none, ty, pos, after, none⟩ :: l) r ds m H :=
  .val hd (fun _ h => by cases h) (fun tmps w ho _ => by
    subst hj
    have e2 := bound_ok (P := P) (i := (q : Int)) (k := kh) (y := k) (by omega) (by omega) .sliceAlen w
    simp only [execOp, Option.map_some, Option.map_none, Sem.run_bind, ho.ev hx, ho.ev hh, Instr.sliceAt, run_underlying hu, Instr.sureAddr, Instr.sliceBounds, Sem.run_pure, Result.andThen_ok]
    simp [e2, Result.andThen, run_size hsz, add_none]) h
theorem WL.slArr {e : TypeId} {b o k sz : Nat} (hx : r.ev x = some (.pointer (some ⟨b, o, none⟩))) (hu : P.underlying t = some (.array k e)) (hsz : sizeB P e = some sz)
    (hd : Nat.blt d n = true) (h : WL P ro n w0 ops Q l ((d, .slice (some ⟨b, o, none⟩) k k) :: r) ds m H) :
    WL P ro n w0 ops Q (⟨some d, .slice t x none none none, ty, pos, after, none⟩ :: l) r ds m H :=
  .val hd (fun _ h => by cases h) (fun tmps w ho _ => by
    simp only [execOp, Option.map_some, Option.map_none, Sem.run_bind, ho.ev hx, Instr.sliceAt, run_underlying hu, Instr.sureAddr, Instr.sliceBounds, Sem.run_pure, Result.andThen_ok]
    simp [Result.andThen, run_size hsz, add_none]) h
/-- a text copied into an array -/
theorem WL.copyS {e tx : TypeId} {b o k cap : Nat} {s : List UInt8} {T : TypeId} {L L' : List Value} {H' : SHeap} (hx : r.ev x = some (.slice (some ⟨b, o, none⟩) k cap)) (hy : r.ev y = some (str s)) (hle : s.length ≤ k)
    (hu : P.underlying t = some (.slice e)) (hsz : sizeB P e = some 1) (hut : P.underlying tx = some .string) (hr : Repl (.blk b (.cells L.toArray T (0, 0))) (.blk b (.cells L'.toArray T (0, 0))) H H') (hl : o + s.length ≤ L.length)
    (hL : laid L o (s.map fun b => Value.int .u8 (b.toNat : Int)) = L') (hd : Nat.blt d n = true) (h : WL P ro n w0 ops Q l ((d, .int .i64 (s.length : Int)) :: r) ds m H') :
    WL P ro n w0 ops Q (⟨some d, .call ⟨.builtin .copy, #[x, y], #[t, tx]⟩, ty, pos, after, none⟩ :: l) r ds m H := by
  subst hL
  refine .gen (fun v m' H'' => v = .int .i64 (s.length : Int) ∧ m' = m ∧ H'' = H') hd (fun _ h => by cases h) (fun tmps w ho hs => ?_) (by rintro _ _ _ ⟨rfl, rfl, rfl⟩; exact h)
  obtain ⟨H1, p1, p2⟩ := hr.perm
  have hsrc := Source.str (P := P) (w0 := w0) (m := m) (H := H) hut s w hs
  obtain ⟨w', h1, h2⟩ := run_laid (P := P) (s.map fun b => Value.int .u8 (b.toNat : Int)) 0 o L H1 w (by simpa using hl) (.inl rfl) (List.all_eq_true.2 fun u hu => hsrc.one u hu) (hs.perm p1)
  refine ⟨_, m, H', w', ?_, h2.perm p2.symm, rfl, rfl, rfl⟩
  have hmin : Nat.min s.length k = s.length := Nat.min_eq_left hle
  have hrun : (Builtin.copy_ #[t, tx] ty #[.slice (some ⟨b, o, none⟩) k cap, str s]).run P w = .ok (.int .i64 (s.length : Int)) w' := by
    simp [Builtin.copy_, run_underlying hu, run_size hsz, hsrc.len, hmin, hsrc.cells, h1, goInt]
  simp only [execOp, resolve, invoke, builtin, Sem.run_bind, Sem.run_pure, Result.andThen_ok, List.map_toArray, List.map_cons, List.map_nil, ho.ev hx, ho.ev hy, hrun]
/-- an array's bytes as a text -/
theorem WL.bytesBlk {src dst e : TypeId} {b k cap : Nat} {T : TypeId} {fz : Nat × Nat} {L : List Value} {s : List UInt8} (hx : r.ev x = some (.slice (some ⟨b, 0, none⟩) k cap)) (hm : Item.blk b (.cells L.toArray T fz) ∈ H)
    (hL : L.take k = s.map fun b => Value.int .u8 (b.toNat : Int)) (hk : k = s.length) (hs1 : P.underlying src = some (.slice e)) (hs2 : P.underlying dst = some .string) (hs3 : P.underlying e = some (.int .u8)) (hsz : sizeB P e = some 1) (hd : Nat.blt d n = true)
    (h : WL P ro n w0 ops Q l ((d, str s) :: r) ds m H) : WL P ro n w0 ops Q (⟨some d, .convert src dst x, ty, pos, after, none⟩ :: l) r ds m H := by
  subst hk
  refine .bytesStr hx hs1 hs2 hs3 hsz (.inr ⟨_, _, rfl, fun w hs j v hj => ?_⟩) hd h
  rw [add_none]
  rw [← hL, List.getElem?_take] at hj
  split at hj
  · exact Cell.blk hm (by simpa using hj) w hs
  · cases hj
end
section
variable {P : Program} {ro : Option Nat} {n : Nat} {w0 : World} {Q : Exit → Act → World → Prop} {r : Env} {ds : List Nat} {m : Mem} {H : SHeap} {ops : Array Oper} {l : List Oper}
theorem WL.heap {H' : SHeap} (hh : ∀ w, Sat w0 m H w → Sat w0 m H' w) (h : WL P ro n w0 ops Q l r ds m H') : WL P ro n w0 ops Q l r ds m H := fun tmps w ho hs => h tmps w ho (hh w hs)
end
theorem all_nil {α : Type} {p : α → Prop} : ∀ x ∈ ([] : List α), p x := fun _ h => by cases h
theorem all_cons {α : Type} {p : α → Prop} {a : α} {l : List α} (h : p a) (k : ∀ x ∈ l, p x) : ∀ x ∈ a :: l, p x := fun x hx => by
  rcases List.mem_cons.1 hx with rfl | hx
  · exact h
  · exact k x hx
theorem Acts.mk {P : Program} {ro : Option Nat} {n : Nat} {w0 : World} {l : List Oper} {g : Nat} {ds : List Nat} {K : Env → Mem → SHeap → SHeap → Prop} {k V : Nat} {r : Env} {m : Mem} {S U : SHeap} {i : Nat} {o : Oper} {d : Nat} (ho : l[i]? = some o) (hd : o.dst = some d) (hnd : ∀ c, o.op ≠ .defer c)
    (h : WL P ro n w0 l.toArray (QE w0 d ds S m fun v m' S' U' => WE P ro n w0 l g ds K k (V ||| 1 <<< i) ((d, v) :: r) m' S' U') [o] (Env.sel (o.looksAt l.toArray) r) ds m (S ++ U)) : Acts P ro n w0 l g ds K k V r m S U i := ⟨o, d, ho, hd, hnd, h⟩
end Go.Eng

/-
  A walk's engine, sixteenth part: how a law's arguments are read, ahead of the call and behind it. No condition.
-/
set_option linter.all false
namespace Go.Eng
open Go Go.RowKit Go.ChangeShapes Go.WideShapes Go.ChangeMaps
section
variable {H : Type} {enc : TypeId × Value → H} {P : Program}
theorem same_below {W W' : World} (hb : Below W.heap.size W W') {p : MemPlace} (hp : p.block < W.heap.size) : W.sameAt W' p := by
  cases p with
  | cell b off =>
    have h := hb.block b hp
    show W'.cell? ⟨b, off, none⟩ = W.cell? ⟨b, off, none⟩
    simp only [World.cell?, h]
  | map b => exact hb.block b hp
theorem trod_again {W W' : World} {sp : Nat → Bool} {t : TypeId} {v : Value} {d : DataW H} {p : List MemPlace} (hl : laidOutB P = true) (ht : t < P.types.size) (hr : P.readableRec t = true)
    (h : DataW.Trod enc P W 0 (fun _ => true) true t v d p) (hlt : ∀ q ∈ p, q.block < W.heap.size) (hb : Below W.heap.size W W') (hs : ∀ q ∈ p, sp q.block = true) : DataW.Trod enc P W' 0 sp true t v d p := by
  obtain ⟨n, hn⟩ := h
  have h1 := DataW.trod_carry (w' := W') n _ _ _ hn (fun q hq => same_below hb (hlt q hq))
  exact ⟨n, DataW.trod_respare (kids_book hl hr) (fun t e hT hu => book_sized hr hT hu) n _ _ _ ⟨ht, book_self t⟩ h1 hs⟩
theorem args_again {W W' : World} {sp : Nat → Bool} (hl : laidOutB P = true) (hb : Below W.heap.size W W') : ∀ {ts : List TypeId} {vs : List Value} {ds : List (DataW H)} {p : List MemPlace},
    (∀ t ∈ ts, t < P.types.size ∧ P.readableRec t = true) → DataW.TrodAll enc P W 0 (fun _ => true) true ts vs ds p → (∀ q ∈ p, sp q.block = true) → DataW.TrodAll enc P W' 0 sp true ts vs ds p
  | [], [], [], _, _, h, _ => h
  | t :: ts, v :: vs, d :: ds, p, hts, h, hs => by
    have hlt := DataW.TrodAll.lt h
    obtain ⟨a, b, h1, h2, e⟩ := h
    subst e
    obtain ⟨g1, g2⟩ := hts t List.mem_cons_self
    exact ⟨a, b, trod_again hl g1 g2 h1 (fun q hq => hlt q (List.mem_append_left _ hq)) hb (fun q hq => hs q (List.mem_append_left _ hq)),
      args_again hl hb (fun t ht => hts t (List.mem_cons_of_mem _ ht)) h2 (fun q hq => hs q (List.mem_append_right _ hq)), rfl⟩
/-- a law that says true, and leaves all that it was handed -/
theorem post_true {f : Func} {s : ChangeSpec} {apart fresh handsOn again : Bool} {W W' : World} {args : Array Value} {ds gs : List (DataW H)} {before : List MemPlace} {tb : TypeId}
    (hW : DataW.Whole enc P f.params.toList s.vars apart W args.toList ds gs before) (hvars : s.vars = []) (hfn : s.fn H (ds ++ gs) = { results := [.lit (.bool true)], args := ds })
    (hres : f.resultTypes = #[tb]) (htb : P.underlying tb = some .bool) (hl : laidOutB P = true) (hts : (f.params.toList.all fun t => decide (t < P.types.size) && P.readableRec t) = true) (hb : Below W.heap.size W W') :
    s.post enc P f apart fresh handsOn again W args (.bool true) W' := by
  have hW2 := hW
  obtain ⟨p, q, hA, hV, e, _, _⟩ := hW
  rw [hvars] at hV
  obtain ⟨rfl, rfl⟩ := trodVars_none hV
  rw [List.append_nil] at e
  subst e
  have hts' : ∀ t ∈ f.params.toList, t < P.types.size ∧ P.readableRec t = true := fun t ht => by simpa using List.all_eq_true.1 hts t ht
  refine post_below (pa := before) (pv := []) hW2 (fun _ _ _ => ?_) (fun sp hs => ?_) (fun _ _ => ?_) (by simp) hb ?_
  · rw [hfn, hres]; exact trodAll_cons_mk (shut_bool htb _) trodAll_mk0
  · rw [hfn]; exact args_again hl hb hts' hA hs
  · rw [hfn, hvars]; rfl
  · intro j t r h1 h2
    rw [hres] at h1 h2
    match j, h1 with
    | 0, h1 =>
      simp at h1; subst h1
      simp [Value.resultList] at h2
      subst h2
      exact okWide_bool_mk htb _
/-- a slice that came in, of elements of one cell -/
theorem RowR.came {w0 W : World} {Hp : SHeap} {sz : Nat} {a : Option Addr} {es : List (List Value)} (h1 : ∀ e ∈ es, e.length = sz)
    (h2 : match a with | .none => es = [] | .some b => ∀ j v, es.flatten[j]? = .some v → W.cell? (b.add j) = .some v) : RowR w0 (memOf W) Hp sz a es := by
  intro w hs
  refine ⟨h1, ?_⟩
  cases a with
  | none => exact h2
  | some b =>
    intro j v hj
    have hc := h2 j v hj
    generalize b.add j = c at hc ⊢
    obtain ⟨b, o, s⟩ := c
    cases hh : W.heap[b]? with
    | none => cases s <;> simp [World.cell?, hh] at hc
    | some ob =>
      have := hs.pers b ob hh
      cases s <;> simpa [World.cell?, this, hh] using hc
theorem at_map {α : Type} {f : α → Value} {l : List α} {j : Nat} {v : Value} (h : (l.map fun x => [f x]).flatten[j]? = .some v) : ∃ x, l[j]? = .some x ∧ v = f x := by
  rw [flatten_single, List.getElem?_map] at h
  obtain ⟨x, h1, h2⟩ := Option.map_eq_some_iff.1 h
  exact ⟨x, h1, h2.symm⟩
/-- slices of elements of one cell -/
theorem open_ones {α : Type} [Inhabited α] (val : α → Value) (lit : α → Lit) {W : World} {r : Go.Reach} {b0 : Nat} {t e : TypeId} {v : Value} {d : DataW H} {ps : List MemPlace} (ht : P.underlying t = some (.slice e)) (hc : P.cellsOf e = 1)
    (hone : ∀ (n : Nat) (u : Value) (y : DataW H × List MemPlace), DataW.trod enc P W 0 (fun _ => true) true n e [u] = some y → ∃ x, u = val x ∧ y.1 = .lit (lit x) ∧ (lit x).wf = true)
    (hval : Value.okWide P W r b0 t v) (h : DataW.Trod enc P W 0 (fun _ => true) true t v d ps) : ∃ (a : Option Addr) (cap : Nat) (ns : List α) (spare : List (DataW H)), v = .slice a ns.length cap ∧ ns.length ≤ cap ∧ (∀ x ∈ ns, (lit x).wf = true) ∧
      (d = .nil ∧ ns = [] ∨ d = .slice (ns.map fun x => .lit (lit x)) spare) ∧ (ns ≠ [] ∨ cap = 0 ∨ True) ∧ ∀ w0 Hp, RowR w0 (memOf W) Hp 1 a (ns.map fun x => [val x]) := by
  obtain ⟨a, len, cap, rfl⟩ := okWide_slice ht hval
  obtain ⟨n, hn⟩ := h
  rcases Deep.open_slice1 ht hc hn with ⟨h1, h2⟩ | ⟨a', len', cap', m, n', V, D, Pl, h1, _, hle, _, hm, h2, hx⟩
  · simp [Value.cells] at h1
    obtain ⟨rfl, rfl, rfl⟩ := h1
    exact ⟨none, 0, [], [], rfl, Nat.le_refl _, (by simp), .inl ⟨congrArg Prod.fst h2, rfl⟩, .inr (.inr trivial), fun _ _ => RowR.nil⟩
  · simp [Value.cells] at h1
    obtain ⟨rfl, rfl, rfl⟩ := h1
    simp only [if_true] at hm
    subst hm
    obtain ⟨X, hX⟩ := Deep.choose_lt (α := α) (n := m) (p := fun i x => V i = val x ∧ D i = .lit (lit x) ∧ (lit x).wf = true) (fun i hi => by
      obtain ⟨_, g⟩ := hx i hi
      exact hone _ _ _ g)
    refine ⟨some a', m, (List.range len).map X, (List.range (m - len)).map fun j => D (len + j), by simp, by simpa using hle, ?_, .inr ?_, .inr (.inr trivial), fun w0 Hp => ?_⟩
    · intro x hxm
      obtain ⟨i, hi, rfl⟩ := List.mem_map.1 hxm
      exact (hX i (by have := List.mem_range.1 hi; omega)).2.2
    · have := congrArg Prod.fst h2
      simp only at this
      rw [this, List.map_map]
      congr 1
      exact List.map_congr_left fun i hi => (hX i (by have := List.mem_range.1 hi; omega)).2.1
    · refine RowR.came (by simp) ?_
      intro j v hj
      obtain ⟨x, hx1, rfl⟩ := at_map hj
      rw [List.getElem?_map] at hx1
      obtain ⟨i, hi, rfl⟩ := Option.map_eq_some_iff.1 hx1
      obtain ⟨hjl, rfl⟩ := List.getElem?_eq_some_iff.1 hi
      rw [List.getElem_range]
      have hjl' : j < len := by simpa using hjl
      rw [← (hX j (by omega)).1]
      exact (hx j (by omega)).1
theorem open_nums {W : World} {r : Go.Reach} {b0 : Nat} {t e : TypeId} {k : IntKind} {v : Value} {d : DataW H} {ps : List MemPlace} (ht : P.underlying t = some (.slice e)) (he : P.underlying e = some (.int k)) (hc : P.cellsOf e = 1)
    (hval : Value.okWide P W r b0 t v) (h : DataW.Trod enc P W 0 (fun _ => true) true t v d ps) : ∃ (a : Option Addr) (cap : Nat) (ns : List Int) (spare : List (DataW H)), v = .slice a ns.length cap ∧ ns.length ≤ cap ∧ (∀ x ∈ ns, (Lit.int k x).wf = true) ∧
      (d = .nil ∧ ns = [] ∨ d = .slice (ns.map fun x => .lit (.int k x)) spare) ∧ ∀ w0 Hp, RowR w0 (memOf W) Hp 1 a (ns.map fun x => [Value.int k x]) := by
  obtain ⟨a, cap, ns, sp, h1, h2, h3, h4, _, h5⟩ := open_ones (Value.int k) (Lit.int k) ht hc (fun n u y hy => by
    obtain ⟨x, hx, hy', hw⟩ := DataW.trod_int he hy
    simp at hx
    exact ⟨x, hx, congrArg Prod.fst hy', hw⟩) hval h
  exact ⟨a, cap, ns, sp, h1, h2, h3, h4, h5⟩
theorem open_texts {W : World} {r : Go.Reach} {b0 : Nat} {t e : TypeId} {v : Value} {d : DataW H} {ps : List MemPlace} (ht : P.underlying t = some (.slice e)) (he : P.underlying e = some .string) (hc : P.cellsOf e = 1)
    (hval : Value.okWide P W r b0 t v) (h : DataW.Trod enc P W 0 (fun _ => true) true t v d ps) : ∃ (a : Option Addr) (cap : Nat) (ns : List (List UInt8)) (spare : List (DataW H)), v = .slice a ns.length cap ∧ ns.length ≤ cap ∧
      (d = .nil ∧ ns = [] ∨ d = .slice (ns.map fun x => .lit (.string x)) spare) ∧ ∀ w0 Hp, RowR w0 (memOf W) Hp 1 a (ns.map fun x => [str x]) := by
  obtain ⟨a, cap, ns, sp, h1, h2, h3, h4, _, h5⟩ := open_ones (α := List UInt8) str Lit.string ht hc (fun n u y hy => by
    obtain ⟨x, hx, hy', hw⟩ := DataW.trod_string he hy
    simp at hx
    refine ⟨x.data.toList, by rw [hx], congrArg Prod.fst hy', ?_⟩
    simpa [Lit.wf] using hw) hval h
  exact ⟨a, cap, ns, sp, h1, h2, h4, h5⟩
end
end Go.Eng

/-
  Plain facts on changes of texts: steps, and what stands between the bytes that are kept. No condition.
-/
namespace Go.Eng
open Go
/-- a step as it came in -/
structure Stp where
  k : Int
  d : List UInt8
  p : List UInt8
  deriving DecidableEq
/-- what is put and what is dropped ahead of a byte that is kept, or at the end -/
structure Gap where
  p : List UInt8
  d : List UInt8
  deriving DecidableEq
/-- may it be: just one of the three -/
def stpOk (s : Stp) : Prop := (0 < s.k ∧ s.d = [] ∧ s.p = []) ∨ (s.k = 0 ∧ s.d ≠ [] ∧ s.p = []) ∨ (s.k = 0 ∧ s.d = [] ∧ s.p ≠ [])
instance (s : Stp) : Decidable (stpOk s) := by unfold stpOk; infer_instance
def maxT : Nat := 65536
/-- how many bytes a change is of, and makes, if it may be -/
def sizesF : List Stp → Int → Int → Option (Int × Int)
  | [], f, t => some (f, t)
  | s :: l, f, t => if stpOk s ∧ s.k ≤ maxT ∧ f + s.k + s.d.length ≤ maxT ∧ t + s.k + s.p.length ≤ maxT then sizesF l (f + s.k + s.d.length) (t + s.k + s.p.length) else none
def sizesOf (l : List Stp) : Option (Int × Int) := sizesF l 0 0
/-- the builder: what is done, and what is put and dropped since -/
structure Bld where
  l : List Stp
  p : List UInt8
  d : List UInt8
def Bld.close (b : Bld) : Bld := ⟨b.l ++ (if b.p = [] then [] else [⟨0, [], b.p⟩]) ++ (if b.d = [] then [] else [⟨0, b.d, []⟩]), [], []⟩
/-- a row is kept behind what is done -/
def addKeep (l : List Stp) (n : Int) : List Stp := match l.getLast? with
  | some s => if 0 < s.k then l.dropLast ++ [⟨s.k + n, s.d, s.p⟩] else l ++ [⟨n, [], []⟩]
  | none => [⟨n, [], []⟩]
def Bld.keep (b : Bld) (n : Int) : Bld := if n = 0 then b else ⟨addKeep b.close.l n, [], []⟩
def Bld.step (b : Bld) (s : Stp) : Bld := if 0 < s.k then b.keep s.k else if s.d ≠ [] then ⟨b.l, b.p, b.d ++ s.d⟩ else ⟨b.l, b.p ++ s.p, b.d⟩
def Bld.start : Bld := ⟨[], [], []⟩
def plainOf (l : List Stp) : List Stp := (l.foldl Bld.step Bld.start).close.l
/-- the gaps of a change -/
structure Gs where
  done : List Gap
  cur : Gap
def Gs.step (g : Gs) (s : Stp) : Gs := if 0 < s.k then ⟨g.done ++ g.cur :: List.replicate (s.k.toNat - 1) ⟨[], []⟩, ⟨[], []⟩⟩ else if s.d ≠ [] then ⟨g.done, ⟨g.cur.p, g.cur.d ++ s.d⟩⟩ else ⟨g.done, ⟨g.cur.p ++ s.p, g.cur.d⟩⟩
def Gs.start : Gs := ⟨[], ⟨[], []⟩⟩
def gapsOf (l : List Stp) : Gs := l.foldl Gs.step Gs.start
/-- the builder over gaps: each is laid, and a byte kept behind it -/
def bldGap (b : Bld) (g : Gap) : Bld := (⟨b.l, b.p ++ g.p, b.d ++ g.d⟩ : Bld).keep 1
def bldGs (g : Gs) : Bld := let b := g.done.foldl bldGap Bld.start; ⟨b.l, b.p ++ g.cur.p, b.d ++ g.cur.d⟩
theorem keep_pd (b : Bld) (n : Int) (hn : n ≠ 0) : (b.keep n).p = [] ∧ (b.keep n).d = [] := by unfold Bld.keep; rw [if_neg hn]; exact ⟨rfl, rfl⟩
theorem addKeep_add (l : List Stp) (m n : Int) (hm : 0 < m) : addKeep (addKeep l m) n = addKeep l (m + n) := by
  unfold addKeep
  cases h : l.getLast? with
  | none => simp [hm]
  | some s =>
    by_cases hs : 0 < s.k
    · simp only [hs, if_true]
      have : 0 < s.k + m := by omega
      simp [this, Int.add_assoc]
    · simp only [hs, if_false]
      simp [hm]
theorem close_keep (b : Bld) (n : Int) (hn : 0 < n) : (b.keep n).close = b.keep n := by
  unfold Bld.close
  obtain ⟨h1, h2⟩ := keep_pd b n (by omega)
  rw [h1, h2]
  cases hb : b.keep n with
  | mk l p d =>
    rw [hb] at h1 h2
    simp only at h1 h2
    subst h1; subst h2
    simp
theorem keep_keep (b : Bld) (m n : Int) (hm : 0 < m) (hn : 0 < n) : (b.keep m).keep n = b.keep (m + n) := by
  have h1 : (b.keep m).keep n = ⟨addKeep (b.keep m).close.l n, [], []⟩ := by
    conv => lhs; unfold Bld.keep
    rw [if_neg (by omega)]; rfl
  rw [h1, close_keep b m hm]
  unfold Bld.keep
  rw [if_neg (by omega), if_neg (by omega)]
  simp only []
  rw [addKeep_add _ _ _ hm]
theorem keeps_rep (b : Bld) : ∀ n : Nat, (List.replicate n (⟨[], []⟩ : Gap)).foldl bldGap (b.keep 1) = b.keep ((n : Int) + 1)
  | 0 => rfl
  | n + 1 => by
    rw [List.replicate_succ', List.foldl_append, keeps_rep b n]
    simp only [List.foldl_cons, List.foldl_nil, bldGap, List.append_nil]
    have h := keep_pd b ((n : Int) + 1) (by omega)
    rw [show (⟨(b.keep ((n : Int) + 1)).l, (b.keep ((n : Int) + 1)).p, (b.keep ((n : Int) + 1)).d⟩ : Bld) = b.keep ((n : Int) + 1) from rfl]
    rw [keep_keep b _ 1 (by omega) (by omega)]
    congr 1
/-- the builder sees a change's gaps alone -/
theorem bld_gaps : ∀ (l : List Stp) (g : Gs), l.foldl Bld.step (bldGs g) = bldGs (l.foldl Gs.step g)
  | [], _ => rfl
  | s :: l, g => by
    rw [List.foldl_cons, List.foldl_cons, ← bld_gaps l]
    congr 1
    unfold Bld.step Gs.step
    by_cases h1 : 0 < s.k
    · simp only [h1, if_true]
      rw [bldGs, bldGs]
      simp only [List.foldl_append, List.foldl_cons, List.append_nil]
      have := keeps_rep (⟨(g.done.foldl bldGap Bld.start).l, (g.done.foldl bldGap Bld.start).p ++ g.cur.p, (g.done.foldl bldGap Bld.start).d ++ g.cur.d⟩ : Bld) (s.k.toNat - 1)
      rw [show bldGap (g.done.foldl bldGap Bld.start) g.cur = (⟨(g.done.foldl bldGap Bld.start).l, (g.done.foldl bldGap Bld.start).p ++ g.cur.p, (g.done.foldl bldGap Bld.start).d ++ g.cur.d⟩ : Bld).keep 1 from rfl, this]
      rw [show ((s.k.toNat - 1 : Nat) : Int) + 1 = s.k by omega]
    · simp only [h1, if_false]
      by_cases h2 : s.d = []
      · simp [h2, bldGs]
      · simp [h2, bldGs]
theorem plain_gaps (l : List Stp) : plainOf l = (bldGs (gapsOf l)).close.l := by
  rw [plainOf, gapsOf, ← bld_gaps]; rfl
end Go.Eng

/-
  Plain facts on changes, said place by place. No condition.
-/
namespace Go.Eng
open Go
/-- a change said place by place: what it puts at each place; of each byte, whether it drops it, and which it is -/
def putsG (g : Gap) : List (List UInt8) := g.p :: List.replicate g.d.length []
def dropsG (g : Gap) : List Bool := List.replicate g.d.length true ++ [false]
def bytesG (g : Gap) : List UInt8 := g.d ++ [0]
def putsOf (g : Gs) : List (List UInt8) := g.done.flatMap putsG ++ putsG g.cur
def dropsOf (g : Gs) : List Bool := g.done.flatMap dropsG ++ List.replicate g.cur.d.length true
def bytesOf (g : Gs) : List UInt8 := g.done.flatMap bytesG ++ g.cur.d
theorem dropsG_len (g : Gap) : (dropsG g).length = g.d.length + 1 := by simp [dropsG]
theorem bytesG_len (g : Gap) : (bytesG g).length = g.d.length + 1 := by simp [bytesG]
theorem putsG_len (g : Gap) : (putsG g).length = g.d.length + 1 := by simp [putsG]
theorem said_len (g : Gs) : (bytesOf g).length = (dropsOf g).length ∧ (putsOf g).length = (dropsOf g).length + 1 := by
  have h : ∀ l : List Gap, (l.flatMap bytesG).length = (l.flatMap dropsG).length ∧ (l.flatMap putsG).length = (l.flatMap dropsG).length := by
    intro l
    induction l with
    | nil => exact ⟨rfl, rfl⟩
    | cons a l ih => simp only [List.flatMap_cons, List.length_append, bytesG_len, putsG_len, dropsG_len]; omega
  obtain ⟨h1, h2⟩ := h g.done
  simp only [bytesOf, dropsOf, putsOf, List.length_append, List.length_replicate, putsG_len]
  omega
/-- one place of it -/
def posStep (b : Bld) (x : List UInt8 × Bool × UInt8) : Bld := if x.2.1 then ⟨b.l, b.p ++ x.1, b.d ++ [x.2.2]⟩ else (⟨b.l, b.p ++ x.1, b.d⟩ : Bld).keep 1
def posOf (g : Gs) : List (List UInt8 × Bool × UInt8) := (putsOf g).zip ((dropsOf g).zip (bytesOf g))
theorem pos_drops (b : Bld) : ∀ d : List UInt8, ((List.replicate d.length ([] : List UInt8)).zip ((List.replicate d.length true).zip d)).foldl posStep b = ⟨b.l, b.p, b.d ++ d⟩
  | [] => by cases b; simp
  | x :: d => by
    simp only [List.length_cons, List.replicate_succ, List.zip_cons_cons, List.foldl_cons]
    rw [pos_drops _ d]
    simp [posStep]
theorem pos_gap (b : Bld) (g : Gap) : ((putsG g).zip ((dropsG g).zip (bytesG g))).foldl posStep b = bldGap b g := by
  unfold putsG dropsG bytesG bldGap
  cases hd : g.d with
  | nil => simp [posStep]
  | cons x d =>
    have e1 : (List.replicate (x :: d).length true ++ [false]).zip (x :: d ++ [0]) = (true, x) :: ((List.replicate d.length true).zip d ++ [(false, (0 : UInt8))]) := by
      simp only [List.length_cons, List.replicate_succ, List.cons_append, List.zip_cons_cons]
      rw [List.zip_append (by simp)]
      simp
    rw [e1]
    have e2 : (g.p :: List.replicate (x :: d).length ([] : List UInt8)).zip ((true, x) :: ((List.replicate d.length true).zip d ++ [(false, (0 : UInt8))])) =
        (g.p, true, x) :: ((List.replicate d.length ([] : List UInt8)).zip ((List.replicate d.length true).zip d) ++ [([], false, 0)]) := by
      rw [List.zip_cons_cons, List.length_cons, List.replicate_succ', List.zip_append (by simp)]
      simp
    rw [e2, List.foldl_cons, List.foldl_append, pos_drops]
    simp [posStep]
theorem pos_done : ∀ (l : List Gap) (b : Bld), ((l.flatMap putsG).zip ((l.flatMap dropsG).zip (l.flatMap bytesG))).foldl posStep b = l.foldl bldGap b
  | [], _ => rfl
  | g :: l, b => by
    rw [List.flatMap_cons, List.flatMap_cons, List.flatMap_cons, List.zip_append (by rw [dropsG_len, bytesG_len]), List.zip_append (by rw [putsG_len, List.length_zip, dropsG_len, bytesG_len]; simp), List.foldl_append, pos_gap, pos_done l, List.foldl_cons]
/-- a text put together place by place is the builder over gaps -/
theorem pos_all (g : Gs) : let b := (posOf g).foldl posStep Bld.start; (⟨b.l, b.p ++ (putsOf g).getD (dropsOf g).length [], b.d⟩ : Bld) = bldGs g := by
  have hl := said_len ⟨g.done, ⟨[], []⟩⟩
  have h : ∀ l : List Gap, (l.flatMap bytesG).length = (l.flatMap dropsG).length ∧ (l.flatMap putsG).length = (l.flatMap dropsG).length := by
    intro l
    induction l with
    | nil => exact ⟨rfl, rfl⟩
    | cons a l ih => simp only [List.flatMap_cons, List.length_append, bytesG_len, putsG_len, dropsG_len]; omega
  obtain ⟨h1, h2⟩ := h g.done
  have e : posOf g = (g.done.flatMap putsG).zip ((g.done.flatMap dropsG).zip (g.done.flatMap bytesG)) ++ (putsG g.cur).zip ((List.replicate g.cur.d.length true).zip g.cur.d) := by
    rw [posOf, putsOf, dropsOf, bytesOf, List.zip_append (by omega), List.zip_append (by rw [List.length_zip]; omega)]
  simp only []
  rw [e, List.foldl_append, pos_done]
  unfold bldGs
  simp only []
  have hlen : (dropsOf g).length = (g.done.flatMap putsG).length + g.cur.d.length := by rw [dropsOf, List.length_append, List.length_replicate]; omega
  have hget : (putsOf g).getD (dropsOf g).length [] = (putsG g.cur).getD g.cur.d.length [] := by
    rw [hlen, putsOf, List.getD_eq_getElem?_getD, List.getD_eq_getElem?_getD, List.getElem?_append_right (by omega)]
    congr 2; omega
  rw [hget]
  cases hd : g.cur.d with
  | nil => simp [putsG, hd]
  | cons x d =>
    have e2 : (putsG g.cur).zip ((List.replicate (x :: d).length true).zip (x :: d)) = (g.cur.p, true, x) :: (List.replicate d.length ([] : List UInt8)).zip ((List.replicate d.length true).zip d) := by
      have e3 : (List.replicate (x :: d).length true).zip (x :: d) = (true, x) :: (List.replicate d.length true).zip d := by rw [List.length_cons, List.replicate_succ, List.zip_cons_cons]
      rw [e3, putsG, hd, List.zip_cons_cons]
      congr 1
      rw [List.length_cons, List.replicate_succ']
      have hz : (List.replicate d.length true).zip d = (List.replicate d.length true).zip d ++ [] := by simp
      conv => lhs; rw [hz]
      rw [List.zip_append (by simp)]
      simp
    rw [e2, List.foldl_cons, pos_drops]
    simp [posStep, putsG, hd]
theorem plain_pos (l : List Stp) : let b := (posOf (gapsOf l)).foldl posStep Bld.start; plainOf l = (⟨b.l, b.p ++ (putsOf (gapsOf l)).getD (dropsOf (gapsOf l)).length [], b.d⟩ : Bld).close.l := by
  simp only []
  rw [plain_gaps, ← pos_all]
end Go.Eng

/-
  Plain facts on changes: the lists that say a change place by place, while they are filled. No condition.
-/
namespace Go.Eng
open Go
def pad {α : Type} (l : List α) (n : Nat) (x : α) : List α := l ++ List.replicate (n - l.length) x
def gapAt (g : Gs) : Nat := (g.done.flatMap dropsG).length
def atOf (g : Gs) : Nat := gapAt g + g.cur.d.length
def putsPad (N : Nat) (g : Gs) : List (List UInt8) := pad (g.done.flatMap putsG ++ [g.cur.p]) (N + 1) []
def dropsPad (N : Nat) (g : Gs) : List Bool := pad (dropsOf g) N false
def bytesPad (N : Nat) (g : Gs) : List UInt8 := pad (bytesOf g) N 0
theorem flat_lens (l : List Gap) : (l.flatMap bytesG).length = (l.flatMap dropsG).length ∧ (l.flatMap putsG).length = (l.flatMap dropsG).length := by
  induction l with
  | nil => exact ⟨rfl, rfl⟩
  | cons a l ih => simp only [List.flatMap_cons, List.length_append, bytesG_len, putsG_len, dropsG_len]; omega
theorem pad_length {α : Type} {l : List α} {n : Nat} {x : α} (h : l.length ≤ n) : (pad l n x).length = n := by unfold pad; simp; omega
theorem pad_snoc {α : Type} {l : List α} {n : Nat} {x : α} (h : l.length < n) : pad (l ++ [x]) n x = pad l n x := by
  unfold pad
  rw [List.length_append, List.length_singleton, List.append_assoc]
  congr 1
  rw [show n - l.length = (n - (l.length + 1)) + 1 by omega, List.replicate_succ]; rfl
theorem pad_snocs {α : Type} {x : α} : ∀ (k : Nat) {l : List α} {n : Nat}, l.length + k ≤ n → pad (l ++ List.replicate k x) n x = pad l n x
  | 0, l, n, _ => by simp
  | k + 1, l, n, h => by
    rw [List.replicate_succ', ← List.append_assoc, pad_snoc (by simp; omega), pad_snocs k (by omega)]
theorem pad_set {α : Type} {l : List α} {n : Nat} {x y : α} (h : l.length < n) : (pad l n x).set l.length y = pad (l ++ [y]) n x := by
  unfold pad
  rw [List.set_append_right _ _ (Nat.le_refl _), Nat.sub_self, List.length_append, List.length_singleton, List.append_assoc]
  congr 1
  rw [show n - l.length = (n - (l.length + 1)) + 1 by omega, List.replicate_succ]; rfl
theorem pad_whole {α : Type} {l : List α} {n : Nat} {x : α} (h : l.length = n) : pad l n x = l := by unfold pad; simp [h]
theorem dropsOf_len (g : Gs) : (dropsOf g).length = atOf g := by simp [dropsOf, atOf, gapAt]
theorem bytesOf_len (g : Gs) : (bytesOf g).length = atOf g := by rw [(said_len g).1, dropsOf_len]
/-- one more byte is dropped -/
def Gs.byte (g : Gs) (b : UInt8) : Gs := ⟨g.done, ⟨g.cur.p, g.cur.d ++ [b]⟩⟩
theorem byte_drops {N : Nat} {g : Gs} {b : UInt8} (h : atOf g < N) : dropsPad N (g.byte b) = (dropsPad N g).set (atOf g) true ∧ bytesPad N (g.byte b) = (bytesPad N g).set (atOf g) b ∧ putsPad N (g.byte b) = putsPad N g ∧ atOf (g.byte b) = atOf g + 1 ∧ gapAt (g.byte b) = gapAt g := by
  refine ⟨?_, ?_, rfl, by simp [atOf, gapAt, Gs.byte]; omega, rfl⟩
  · unfold dropsPad
    rw [← dropsOf_len, pad_set (by rw [dropsOf_len]; exact h)]
    congr 1
    simp [dropsOf, Gs.byte, List.replicate_succ']
  · unfold bytesPad
    rw [← bytesOf_len, pad_set (by rw [bytesOf_len]; exact h)]
    congr 1
    simp [bytesOf, Gs.byte]
/-- something more is put -/
def Gs.put (g : Gs) (s : List UInt8) : Gs := ⟨g.done, ⟨g.cur.p ++ s, g.cur.d⟩⟩
theorem put_puts {N : Nat} {g : Gs} {s : List UInt8} (h : atOf g ≤ N) : putsPad N (g.put s) = (putsPad N g).set (gapAt g) (g.cur.p ++ s) ∧ (putsPad N g)[gapAt g]? = some g.cur.p := by
  have hl := (flat_lens g.done).2
  have hg : (g.done.flatMap putsG).length = gapAt g := hl
  constructor
  · unfold putsPad pad Gs.put
    rw [List.append_assoc, List.append_assoc, List.set_append_right _ _ (by omega), hg, Nat.sub_self]
    simp
  · unfold putsPad pad
    rw [List.append_assoc, List.getElem?_append_right (by omega), hg, Nat.sub_self]
    rfl
/-- a row is kept -/
def Gs.keeps (g : Gs) (n : Nat) : Gs := ⟨g.done ++ g.cur :: List.replicate (n - 1) ⟨[], []⟩, ⟨[], []⟩⟩
theorem flat_rep {α : Type} (f : Gap → List α) (x : α) (hf : f ⟨[], []⟩ = [x]) : ∀ n, (List.replicate n (⟨[], []⟩ : Gap)).flatMap f = List.replicate n x
  | 0 => rfl
  | n + 1 => by rw [List.replicate_succ, List.flatMap_cons, flat_rep f x hf n, hf]; rfl
theorem keep_pads {N : Nat} {g : Gs} {n : Nat} (hn : 0 < n) (h : atOf g + n ≤ N) : dropsPad N (g.keeps n) = dropsPad N g ∧ bytesPad N (g.keeps n) = bytesPad N g ∧ putsPad N (g.keeps n) = putsPad N g ∧ gapAt (g.keeps n) = atOf g + n ∧ atOf (g.keeps n) = atOf g + n := by
  have hl := flat_lens g.done
  have e1 : dropsOf (g.keeps n) = dropsOf g ++ List.replicate n false := by
    simp only [dropsOf, Gs.keeps, List.flatMap_append, List.flatMap_cons, flat_rep dropsG false rfl, List.length_nil, List.replicate_zero, List.append_nil]
    obtain ⟨m, rfl⟩ : ∃ m, n = m + 1 := ⟨n - 1, by omega⟩
    rw [dropsG, List.append_assoc, List.append_assoc, List.replicate_succ, Nat.add_sub_cancel]
    rfl
  have e2 : bytesOf (g.keeps n) = bytesOf g ++ List.replicate n 0 := by
    simp only [bytesOf, Gs.keeps, List.flatMap_append, List.flatMap_cons, flat_rep bytesG 0 rfl, List.append_nil]
    obtain ⟨m, rfl⟩ : ∃ m, n = m + 1 := ⟨n - 1, by omega⟩
    rw [bytesG, List.append_assoc, List.append_assoc, List.replicate_succ, Nat.add_sub_cancel]
    rfl
  have e3 : (g.keeps n).done.flatMap putsG ++ [(g.keeps n).cur.p] = (g.done.flatMap putsG ++ [g.cur.p]) ++ List.replicate (g.cur.d.length + n) [] := by
    simp only [Gs.keeps, List.flatMap_append, List.flatMap_cons, flat_rep putsG [] rfl]
    obtain ⟨m, rfl⟩ : ∃ m, n = m + 1 := ⟨n - 1, by omega⟩
    rw [Nat.add_sub_cancel, putsG, List.append_assoc, List.append_assoc, List.cons_append, List.append_assoc, ← List.replicate_succ', List.replicate_append_replicate]
    rfl
  have hg : gapAt (g.keeps n) = atOf g + n := by
    have := congrArg List.length e1
    rw [dropsOf_len, List.length_append, dropsOf_len, List.length_replicate] at this
    simpa [atOf, Gs.keeps] using this
  refine ⟨?_, ?_, ?_, hg, by simp [atOf] at hg ⊢; rw [hg]; simp [Gs.keeps]⟩
  · rw [dropsPad, e1, pad_snocs n (by rw [dropsOf_len]; omega)]; rfl
  · rw [bytesPad, e2, pad_snocs n (by rw [bytesOf_len]; omega)]; rfl
  · rw [putsPad, e3, pad_snocs _ (by unfold atOf gapAt at h; rw [List.length_append, List.length_singleton]; omega)]; rfl
/-- the lists are full -/
theorem pads_full {N : Nat} {g : Gs} (h : atOf g = N) : dropsPad N g = dropsOf g ∧ bytesPad N g = bytesOf g ∧ putsPad N g = putsOf g := by
  refine ⟨pad_whole (by rw [dropsOf_len, h]), pad_whole (by rw [bytesOf_len, h]), ?_⟩
  have hl := (flat_lens g.done).2
  unfold atOf gapAt at h
  have e : N + 1 - (g.done.flatMap putsG ++ [g.cur.p]).length = g.cur.d.length := by rw [List.length_append, List.length_singleton]; omega
  rw [putsPad, pad, e, List.append_assoc]
  rfl
theorem gaps_step (g : Gs) (s : Stp) (h : stpOk s) : g.step s = if 0 < s.k then g.keeps s.k.toNat else if s.d ≠ [] then ⟨g.done, ⟨g.cur.p, g.cur.d ++ s.d⟩⟩ else g.put s.p := rfl
end Go.Eng

/-
  Plain facts on changes: byte by byte. No condition.
-/
namespace Go.Eng
open Go
/-- one byte of a change -/
inductive Atm where
  | k
  | d (b : UInt8)
  | p (b : UInt8)
  deriving DecidableEq
def Stp.atoms (s : Stp) : List Atm := List.replicate s.k.toNat .k ++ s.d.map .d ++ s.p.map .p
def atomsOf (l : List Stp) : List Atm := l.flatMap Stp.atoms
def Bld.atom (b : Bld) : Atm → Bld
  | .k => b.keep 1
  | .d c => ⟨b.l, b.p, b.d ++ [c]⟩
  | .p c => ⟨b.l, b.p ++ [c], b.d⟩
def Bld.run (b : Bld) (l : List Atm) : Bld := l.foldl Bld.atom b
theorem run_append (b : Bld) (x y : List Atm) : b.run (x ++ y) = (b.run x).run y := List.foldl_append ..
theorem run_nil (b : Bld) : b.run [] = b := rfl
theorem run_d (b : Bld) : ∀ ds : List UInt8, b.run (ds.map .d) = ⟨b.l, b.p, b.d ++ ds⟩
  | [] => by cases b; simp [Bld.run]
  | x :: ds => by
    have h := run_d (b.atom (.d x)) ds
    simp only [Bld.run, List.map_cons, List.foldl_cons] at h ⊢
    rw [h]; simp [Bld.atom]
theorem run_p (b : Bld) : ∀ ds : List UInt8, b.run (ds.map .p) = ⟨b.l, b.p ++ ds, b.d⟩
  | [] => by cases b; simp [Bld.run]
  | x :: ds => by
    have h := run_p (b.atom (.p x)) ds
    simp only [Bld.run, List.map_cons, List.foldl_cons] at h ⊢
    rw [h]; simp [Bld.atom]
theorem run_k (b : Bld) : ∀ n : Nat, b.run (List.replicate n .k) = b.keep (n : Int)
  | 0 => rfl
  | n + 1 => by
    rw [List.replicate_succ', run_append, run_k b n]
    show (b.keep (n : Int)).keep 1 = _
    by_cases hn : n = 0
    · subst hn; rfl
    · rw [keep_keep b _ 1 (by omega) (by omega)]; rfl
theorem run_step (b : Bld) (s : Stp) (h : stpOk s) : b.run s.atoms = b.step s := by
  obtain ⟨k, d, p⟩ := s
  rcases h with ⟨h1, h2, h3⟩ | ⟨h1, h2, h3⟩ | ⟨h1, h2, h3⟩
  · simp only at h1 h2 h3
    subst h2; subst h3
    simp only [Stp.atoms, List.map_nil, List.append_nil, Bld.step, h1, if_true]
    rw [run_k, Int.toNat_of_nonneg (by omega)]
  · simp only at h1 h2 h3
    subst h1; subst h3
    simp [Stp.atoms, Bld.step, h2, run_d]
  · simp only at h1 h2 h3
    subst h1; subst h2
    simp [Stp.atoms, Bld.step, run_p]
/-- what a builder has laid, byte by byte -/
def gapA (g : Gap) : List Atm := g.p.map .p ++ g.d.map .d
def Bld.atoms (b : Bld) : List Atm := atomsOf b.l ++ gapA ⟨b.p, b.d⟩
def nfOf (g : Gs) : List Atm := g.done.flatMap (fun x => gapA x ++ [.k]) ++ gapA g.cur
theorem atoms_append (x y : List Stp) : atomsOf (x ++ y) = atomsOf x ++ atomsOf y := List.flatMap_append ..
theorem atoms_one (s : Stp) : atomsOf [s] = s.atoms := by simp [atomsOf]
theorem atoms_cons (s : Stp) (l : List Stp) : atomsOf (s :: l) = s.atoms ++ atomsOf l := rfl
theorem close_atoms (b : Bld) : atomsOf b.close.l = b.atoms := by
  unfold Bld.close Bld.atoms gapA
  simp only [atoms_append]
  rw [List.append_assoc]
  congr 1
  congr 1
  · by_cases h : b.p = [] <;> simp [h, atomsOf, Stp.atoms]
  · by_cases h : b.d = [] <;> simp [h, atomsOf, Stp.atoms]
theorem close_ok (b : Bld) (h : ∀ s ∈ b.l, stpOk s) : ∀ s ∈ b.close.l, stpOk s := by
  intro s hs
  unfold Bld.close at hs
  simp only [List.mem_append] at hs
  rcases hs with (hs | hs) | hs
  · exact h s hs
  · by_cases hp : b.p = []
    · simp [hp] at hs
    · simp [hp] at hs; subst hs; exact .inr (.inr ⟨rfl, rfl, hp⟩)
  · by_cases hp : b.d = []
    · simp [hp] at hs
    · simp [hp] at hs; subst hs; exact .inr (.inl ⟨rfl, hp, rfl⟩)
theorem addKeep_atoms (l : List Stp) (n : Int) (hn : 0 < n) (h : ∀ s ∈ l, stpOk s) : atomsOf (addKeep l n) = atomsOf l ++ List.replicate n.toNat .k ∧ ∀ s ∈ addKeep l n, stpOk s := by
  unfold addKeep
  cases hl : l.getLast? with
  | none =>
    have : l = [] := by simpa using hl
    subst this
    refine ⟨by simp [atomsOf, Stp.atoms], fun s hs => ?_⟩
    simp at hs; subst hs; exact .inl ⟨hn, rfl, rfl⟩
  | some s =>
    obtain ⟨ys, e⟩ := List.getLast?_eq_some_iff.1 hl
    have e2 : l.dropLast = ys := by rw [e]; simp
    rw [e2]
    have hs := h s (by rw [e]; simp)
    by_cases h0 : 0 < s.k
    · simp only [h0, if_true]
      rcases hs with ⟨_, h2, h3⟩ | ⟨h1, _, _⟩ | ⟨h1, _, _⟩
      · refine ⟨?_, fun x hx => ?_⟩
        · conv => rhs; rw [e]
          rw [atoms_append, atoms_append, atoms_one, atoms_one, List.append_assoc]
          congr 1
          simp only [Stp.atoms, h2, h3, List.map_nil, List.append_nil]
          rw [List.replicate_append_replicate]
          congr 1; omega
        · simp only [List.mem_append, List.mem_singleton] at hx
          rcases hx with hx | rfl
          · exact h x (by rw [e]; simp [hx])
          · exact .inl ⟨by simp only; omega, h2, h3⟩
      · omega
      · omega
    · simp only [h0, if_false]
      refine ⟨by rw [atoms_append, atoms_one]; simp [Stp.atoms], fun x hx => ?_⟩
      simp only [List.mem_append, List.mem_singleton] at hx
      rcases hx with hx | rfl
      · exact h x hx
      · exact .inl ⟨hn, rfl, rfl⟩
theorem keep_atoms (b : Bld) (n : Int) (hn : 0 < n) (h : ∀ s ∈ b.l, stpOk s) : (b.keep n).atoms = b.atoms ++ List.replicate n.toNat .k ∧ ∀ s ∈ (b.keep n).l, stpOk s := by
  unfold Bld.keep
  rw [if_neg (by omega)]
  obtain ⟨h1, h2⟩ := addKeep_atoms b.close.l n hn (close_ok b h)
  refine ⟨?_, h2⟩
  unfold Bld.atoms
  simp only [gapA, List.map_nil, List.append_nil]
  rw [h1, close_atoms]; rfl
theorem bldGap_atoms (b : Bld) (g : Gap) (h : ∀ s ∈ b.l, stpOk s) (hp : b.p = []) (hd : b.d = []) : (bldGap b g).atoms = b.atoms ++ (gapA g ++ [.k]) ∧ (∀ s ∈ (bldGap b g).l, stpOk s) ∧ (bldGap b g).p = [] ∧ (bldGap b g).d = [] := by
  obtain ⟨h1, h2⟩ := keep_atoms ⟨b.l, b.p ++ g.p, b.d ++ g.d⟩ 1 (by omega) h
  have h3 := keep_pd ⟨b.l, b.p ++ g.p, b.d ++ g.d⟩ 1 (by omega)
  refine ⟨?_, h2, h3.1, h3.2⟩
  rw [bldGap, h1]
  unfold Bld.atoms
  simp [hp, hd, gapA]
theorem bldGs_done : ∀ (l : List Gap) (b : Bld), (∀ s ∈ b.l, stpOk s) → b.p = [] → b.d = [] → (l.foldl bldGap b).atoms = b.atoms ++ l.flatMap (fun x => gapA x ++ [.k]) ∧ (∀ s ∈ (l.foldl bldGap b).l, stpOk s) ∧ (l.foldl bldGap b).p = [] ∧ (l.foldl bldGap b).d = []
  | [], b, h, hp, hd => ⟨by simp, h, hp, hd⟩
  | g :: l, b, h, hp, hd => by
    obtain ⟨h1, h2, h3, h4⟩ := bldGap_atoms b g h hp hd
    obtain ⟨k1, k2, k3, k4⟩ := bldGs_done l (bldGap b g) h2 h3 h4
    refine ⟨?_, k2, k3, k4⟩
    rw [List.foldl_cons, k1, h1, List.flatMap_cons, List.append_assoc]
theorem bldGs_atoms (g : Gs) : (bldGs g).atoms = nfOf g ∧ ∀ s ∈ (bldGs g).l, stpOk s := by
  obtain ⟨h1, h2, h3, h4⟩ := bldGs_done g.done Bld.start (by simp [Bld.start]) rfl rfl
  refine ⟨?_, h2⟩
  unfold bldGs nfOf
  simp only []
  rw [show (Bld.atoms ⟨(g.done.foldl bldGap Bld.start).l, (g.done.foldl bldGap Bld.start).p ++ g.cur.p, (g.done.foldl bldGap Bld.start).d ++ g.cur.d⟩) = (g.done.foldl bldGap Bld.start).atoms ++ gapA g.cur by simp [Bld.atoms, h3, h4, gapA], h1]
  simp [Bld.atoms, Bld.start, atomsOf, gapA]
theorem plain_atoms (l : List Stp) : atomsOf (plainOf l) = nfOf (gapsOf l) := by rw [plain_gaps, close_atoms, (bldGs_atoms _).1]
theorem plain_ok (l : List Stp) : ∀ s ∈ plainOf l, stpOk s := by rw [plain_gaps]; exact close_ok _ (bldGs_atoms _).2
/-- the said change, as a list of places -/
abbrev Pos := List UInt8 × Bool × UInt8
def Pos.atoms (x : Pos) : List Atm := x.1.map .p ++ [if x.2.1 then .d x.2.2 else .k]
def lastOf (g : Gs) : List UInt8 := (putsOf g).getD (dropsOf g).length []
def sdA (ps : List Pos) (last : List UInt8) : List Atm := ps.flatMap Pos.atoms ++ last.map .p
theorem run_pos (b : Bld) (x : Pos) : b.run x.atoms = posStep b x := by
  rw [Pos.atoms, run_append, run_p, posStep]
  cases h : x.2.1 <;> simp [Bld.run, Bld.atom]
theorem sd_drops : ∀ d : List UInt8, ((List.replicate d.length ([] : List UInt8)).zip ((List.replicate d.length true).zip d)).flatMap Pos.atoms = d.map .d
  | [] => rfl
  | x :: d => by
    simp only [List.length_cons, List.replicate_succ, List.zip_cons_cons, List.flatMap_cons, sd_drops d]
    rfl
theorem sd_gap (g : Gap) : ((putsG g).zip ((dropsG g).zip (bytesG g))).flatMap Pos.atoms = gapA g ++ [.k] := by
  unfold putsG dropsG bytesG gapA
  cases hd : g.d with
  | nil => simp [Pos.atoms]
  | cons x d =>
    have e1 : (List.replicate (x :: d).length true ++ [false]).zip (x :: d ++ [0]) = (true, x) :: ((List.replicate d.length true).zip d ++ [(false, (0 : UInt8))]) := by
      simp only [List.length_cons, List.replicate_succ, List.cons_append, List.zip_cons_cons]
      rw [List.zip_append (by simp)]
      simp
    rw [e1]
    have e2 : (g.p :: List.replicate (x :: d).length ([] : List UInt8)).zip ((true, x) :: ((List.replicate d.length true).zip d ++ [(false, (0 : UInt8))])) =
        (g.p, true, x) :: ((List.replicate d.length ([] : List UInt8)).zip ((List.replicate d.length true).zip d) ++ [([], false, 0)]) := by
      rw [List.zip_cons_cons, List.length_cons, List.replicate_succ', List.zip_append (by simp)]
      simp
    rw [e2, List.flatMap_cons, List.flatMap_append, sd_drops]
    simp [Pos.atoms]
theorem sd_done : ∀ l : List Gap, ((l.flatMap putsG).zip ((l.flatMap dropsG).zip (l.flatMap bytesG))).flatMap Pos.atoms = l.flatMap (fun x => gapA x ++ [.k])
  | [] => rfl
  | g :: l => by
    rw [List.flatMap_cons, List.flatMap_cons, List.flatMap_cons, List.zip_append (by rw [dropsG_len, bytesG_len]), List.zip_append (by rw [putsG_len, List.length_zip, dropsG_len, bytesG_len]; simp), List.flatMap_append, sd_gap, sd_done l, List.flatMap_cons]
theorem sd_atoms (g : Gs) : sdA (posOf g) (lastOf g) = nfOf g := by
  have hl := flat_lens g.done
  have e : posOf g = (g.done.flatMap putsG).zip ((g.done.flatMap dropsG).zip (g.done.flatMap bytesG)) ++ (putsG g.cur).zip ((List.replicate g.cur.d.length true).zip g.cur.d) := by
    rw [posOf, putsOf, dropsOf, bytesOf, List.zip_append (by omega), List.zip_append (by rw [List.length_zip]; omega)]
  have hlen : (dropsOf g).length = (g.done.flatMap putsG).length + g.cur.d.length := by rw [dropsOf, List.length_append, List.length_replicate]; omega
  have hget : lastOf g = (putsG g.cur).getD g.cur.d.length [] := by
    rw [lastOf, hlen, putsOf, List.getD_eq_getElem?_getD, List.getD_eq_getElem?_getD, List.getElem?_append_right (by omega)]
    congr 2; omega
  unfold sdA nfOf
  rw [e, hget, List.flatMap_append, sd_done, List.append_assoc]
  congr 1
  cases hd : g.cur.d with
  | nil => simp [putsG, hd, gapA]
  | cons x d =>
    have e2 : (putsG g.cur).zip ((List.replicate (x :: d).length true).zip (x :: d)) = (g.cur.p, true, x) :: (List.replicate d.length ([] : List UInt8)).zip ((List.replicate d.length true).zip d) := by
      have e3 : (List.replicate (x :: d).length true).zip (x :: d) = (true, x) :: (List.replicate d.length true).zip d := by rw [List.length_cons, List.replicate_succ, List.zip_cons_cons]
      rw [e3, putsG, hd, List.zip_cons_cons]
      congr 1
      rw [List.length_cons, List.replicate_succ']
      have hz : (List.replicate d.length true).zip d = (List.replicate d.length true).zip d ++ [] := by simp
      conv => lhs; rw [hz]
      rw [List.zip_append (by simp)]
      simp
    rw [e2, List.flatMap_cons, sd_drops]
    simp [Pos.atoms, putsG, hd, gapA]
/-- the builder over a said change -/
theorem plain_run (l : List Stp) : plainOf l = (Bld.start.run (nfOf (gapsOf l))).close.l := by
  rw [← sd_atoms, sdA, run_append, run_p]
  have h : ∀ (ps : List Pos) (b : Bld), b.run (ps.flatMap Pos.atoms) = ps.foldl posStep b := by
    intro ps
    induction ps with
    | nil => intro b; rfl
    | cons x ps ih => intro b; rw [List.flatMap_cons, run_append, run_pos, ih, List.foldl_cons]
  rw [h]
  exact plain_pos l
end Go.Eng

/-
  Plain facts on changes: where a place goes. No condition.
-/
namespace Go.Eng
open Go
/-- one step of the program's way -/
def moveStep (at_ : Int) (b : Bool) (st : Int × Int) (s : Stp) : Int × Int :=
  if s.p ≠ [] then (if st.2 < at_ ∨ (st.2 = at_ ∧ b = true) then st.1 + s.p.length else st.1, st.2)
  else if s.d ≠ [] then (st.1, st.2 + s.d.length)
  else (st.1 + max 0 (min s.k (at_ - st.2)), st.2 + s.k)
def moveAtm (at_ : Int) (b : Bool) (st : Int × Int) : Atm → Int × Int
  | .p _ => (if st.2 < at_ ∨ (st.2 = at_ ∧ b = true) then st.1 + 1 else st.1, st.2)
  | .d _ => (st.1, st.2 + 1)
  | .k => (if st.2 < at_ then st.1 + 1 else st.1, st.2 + 1)
theorem move_p (at_ : Int) (b : Bool) : ∀ (ds : List UInt8) (o a : Int), (ds.map Atm.p).foldl (moveAtm at_ b) (o, a) = (if a < at_ ∨ (a = at_ ∧ b = true) then o + ds.length else o, a)
  | [], o, a => by simp
  | x :: ds, o, a => by
    simp only [List.map_cons, List.foldl_cons, moveAtm]
    rw [move_p at_ b ds]
    by_cases h : a < at_ ∨ (a = at_ ∧ b = true)
    · simp only [h, if_true, List.length_cons]; congr 1; omega
    · simp only [h, if_false]
theorem move_d (at_ : Int) (b : Bool) : ∀ (ds : List UInt8) (o a : Int), (ds.map Atm.d).foldl (moveAtm at_ b) (o, a) = (o, a + ds.length)
  | [], o, a => by simp
  | x :: ds, o, a => by
    simp only [List.map_cons, List.foldl_cons, moveAtm]
    rw [move_d at_ b ds, List.length_cons]; congr 1; omega
theorem move_k (at_ : Int) (b : Bool) : ∀ (n : Nat) (o a : Int), (List.replicate n Atm.k).foldl (moveAtm at_ b) (o, a) = (o + max 0 (min (n : Int) (at_ - a)), a + n)
  | 0, o, a => by simp; omega
  | n + 1, o, a => by
    simp only [List.replicate_succ, List.foldl_cons, moveAtm]
    rw [move_k at_ b n]
    by_cases h : a < at_
    · simp only [h, if_true]; congr 1 <;> omega
    · simp only [h, if_false]; congr 1 <;> omega
theorem move_step (at_ : Int) (b : Bool) (st : Int × Int) (s : Stp) (h : stpOk s) : s.atoms.foldl (moveAtm at_ b) st = moveStep at_ b st s := by
  obtain ⟨k, d, p⟩ := s
  obtain ⟨o, a⟩ := st
  rcases h with ⟨h1, h2, h3⟩ | ⟨h1, h2, h3⟩ | ⟨h1, h2, h3⟩
  · simp only at h1 h2 h3
    subst h2; subst h3
    simp only [Stp.atoms, List.map_nil, List.append_nil, moveStep]
    rw [move_k, Int.toNat_of_nonneg (by omega)]; simp
  · simp only at h1 h2 h3
    subst h1; subst h3
    simp [Stp.atoms, moveStep, h2, move_d]
  · simp only at h1 h2 h3
    subst h1; subst h2
    simp only [Stp.atoms, moveStep, h3]
    simp only [Int.toNat_zero, List.replicate_zero, List.map_nil, List.nil_append]
    rw [move_p, if_pos h3]
theorem move_steps (at_ : Int) (b : Bool) : ∀ (l : List Stp) (st : Int × Int), (∀ s ∈ l, stpOk s) → (atomsOf l).foldl (moveAtm at_ b) st = l.foldl (moveStep at_ b) st
  | [], _, _ => rfl
  | s :: l, st, h => by
    rw [atoms_cons, List.foldl_append, move_step at_ b st s (h s List.mem_cons_self), move_steps at_ b l _ (fun x hx => h x (List.mem_cons_of_mem _ hx)), List.foldl_cons]
/-- the reference's way -/
def mvF : List Pos → List UInt8 → Nat → Bool → Nat
  | [], last, _, b => if b then last.length else 0
  | x :: _, _, 0, b => if b then x.1.length else 0
  | x :: ps, last, at_ + 1, b => x.1.length + (if x.2.1 then 0 else 1) + mvF ps last at_ b
theorem move_over (at_ : Int) (b : Bool) : ∀ (l : List Atm) (o a : Int), at_ < a → ∃ a', l.foldl (moveAtm at_ b) (o, a) = (o, a')
  | [], o, a, _ => ⟨a, rfl⟩
  | .p _ :: l, o, a, h => by
    simp only [List.foldl_cons, moveAtm]
    rw [if_neg (by omega)]
    exact move_over at_ b l o a h
  | .d _ :: l, o, a, h => by
    simp only [List.foldl_cons, moveAtm]
    exact move_over at_ b l o _ (by omega)
  | .k :: l, o, a, h => by
    simp only [List.foldl_cons, moveAtm]
    rw [if_neg (by omega)]
    exact move_over at_ b l o _ (by omega)
theorem sdA_cons (x : Pos) (ps : List Pos) (last : List UInt8) : sdA (x :: ps) last = x.1.map .p ++ (if x.2.1 then .d x.2.2 else .k) :: sdA ps last := by simp [sdA, Pos.atoms]
theorem sdA_nil (last : List UInt8) : sdA [] last = last.map .p := rfl
theorem move_sd (b : Bool) (last : List UInt8) : ∀ (ps : List Pos) (at_ : Nat) (o i : Int), at_ ≤ ps.length → ∃ a', (sdA ps last).foldl (moveAtm (i + at_) b) (o, i) = (o + mvF ps last at_ b, a')
  | [], at_, o, i, h => by
    simp only [List.length_nil, Nat.le_zero_eq] at h
    subst h
    refine ⟨i, ?_⟩
    rw [sdA_nil, move_p, mvF]
    cases b <;> simp
  | x :: ps, 0, o, i, _ => by
    obtain ⟨p, dr, c⟩ := x
    rw [sdA_cons, List.foldl_append, move_p, List.foldl_cons, mvF]
    have : ∀ o', moveAtm (i + (0 : Nat)) b (o', i) (if dr = true then Atm.d c else Atm.k) = (o', i + 1) := by
      intro o'
      cases dr <;> simp [moveAtm]
    simp only [this]
    obtain ⟨a', ha⟩ := move_over (i + (0 : Nat)) b (sdA ps last) (if i < i + (0 : Nat) ∨ i = i + (0 : Nat) ∧ b = true then o + p.length else o) (i + 1) (by simp; omega)
    refine ⟨a', ?_⟩
    rw [ha]
    cases b <;> simp
  | x :: ps, at_ + 1, o, i, h => by
    obtain ⟨p, dr, c⟩ := x
    rw [sdA_cons, List.foldl_append, move_p, List.foldl_cons, mvF, if_pos (by left; omega)]
    have : ∀ o', moveAtm (i + (at_ + 1 : Nat)) b (o', i) (if dr = true then Atm.d c else Atm.k) = (o' + (if dr then 0 else 1), i + 1) := by
      intro o'
      cases dr
      · simp only [moveAtm, Bool.false_eq_true, if_false]; rw [if_pos (by omega)]
      · simp [moveAtm]
    simp only [this]
    obtain ⟨a', ha⟩ := move_sd b last ps at_ (o + p.length + (if dr then 0 else 1)) (i + 1) (by simpa using h)
    refine ⟨a', ?_⟩
    have e2 : i + 1 + (at_ : Int) = i + ((at_ + 1 : Nat) : Int) := by omega
    rw [e2] at ha
    rw [ha]
    congr 1
    cases dr <;> simp <;> omega
theorem mvF_le (last : List UInt8) (b : Bool) : ∀ (ps : List Pos) (at_ : Nat), mvF ps last at_ b ≤ mvF ps last at_ true
  | [], at_ => by cases b <;> simp [mvF]
  | x :: ps, 0 => by cases b <;> simp [mvF]
  | x :: ps, at_ + 1 => by have := mvF_le last b ps at_; simp only [mvF]; omega
theorem mvF_next (last : List UInt8) : ∀ (ps : List Pos) (at_ : Nat), at_ < ps.length → mvF ps last at_ true ≤ mvF ps last (at_ + 1) false
  | [], at_, h => by simp at h
  | x :: ps, 0, _ => by simp [mvF]; omega
  | x :: ps, at_ + 1, h => by
    have := mvF_next last ps at_ (by simpa using h)
    simp only [mvF] at this ⊢; omega
/-- the program's answer is the reference's -/
def moveOf (l : List Stp) (at_ : Int) (b : Bool) : Int := (l.foldl (moveStep at_ b) (0, 0)).1
def movedF (l : List Stp) (at_ : Nat) (b : Bool) : Nat := mvF (posOf (gapsOf l)) (lastOf (gapsOf l)) at_ b
theorem move_all (l : List Stp) (at_ : Nat) (b : Bool) (h : at_ ≤ (posOf (gapsOf l)).length) : moveOf (plainOf l) at_ b = (movedF l at_ b : Int) := by
  unfold moveOf movedF
  rw [← move_steps at_ b _ _ (plain_ok l), plain_atoms, ← sd_atoms]
  obtain ⟨a', ha⟩ := move_sd b (lastOf (gapsOf l)) (posOf (gapsOf l)) at_ 0 0 h
  rw [Int.zero_add] at ha
  rw [ha]; simp
/-- by the lists themselves -/
theorem mvF_lists (b : Bool) : ∀ (ds : List Bool) (ps : List (List UInt8)) (bs : List UInt8) (p : Nat), bs.length = ds.length → ps.length = ds.length + 1 → p ≤ ds.length →
    mvF (ps.zip (ds.zip bs)) (ps.getD ds.length []) p b = ((ps.take p).map List.length).sum + (ds.take p).count false + (if b then (ps.getD p []).length else 0)
  | [], ps, bs, p, h1, h2, h3 => by
    simp at h3
    subst h3
    cases b <;> simp [mvF]
  | d :: ds, [], bs, p, h1, h2, h3 => by simp at h2
  | d :: ds, x :: ps, [], p, h1, h2, h3 => by simp at h1
  | d :: ds, x :: ps, c :: bs, 0, h1, h2, h3 => by cases b <;> simp [mvF]
  | d :: ds, x :: ps, c :: bs, p + 1, h1, h2, h3 => by
    have ih := mvF_lists b ds ps bs p (by simpa using h1) (by simpa using h2) (by simpa using h3)
    simp only [List.zip_cons_cons, mvF, List.length_cons, List.getD_cons_succ, List.take_succ_cons, List.map_cons, List.sum_cons, List.count_cons]
    rw [ih]
    cases d <;> simp <;> omega
theorem moved_lists (l : List Stp) (p : Nat) (b : Bool) (h : p ≤ (dropsOf (gapsOf l)).length) : movedF l p b = (((putsOf (gapsOf l)).take p).map List.length).sum + ((dropsOf (gapsOf l)).take p).count false + (if b then ((putsOf (gapsOf l)).getD p []).length else 0) := by
  obtain ⟨h1, h2⟩ := said_len (gapsOf l)
  exact mvF_lists b _ _ _ p h1 h2 h
theorem pos_len (l : List Stp) : (posOf (gapsOf l)).length = (dropsOf (gapsOf l)).length := by
  obtain ⟨h1, h2⟩ := said_len (gapsOf l)
  simp only [posOf, List.length_zip]; omega
theorem moved_le (l : List Stp) (p : Nat) (b : Bool) : movedF l p b ≤ movedF l p true := mvF_le ..
theorem moved_next (l : List Stp) (p : Nat) (h : p < (dropsOf (gapsOf l)).length) : movedF l p true ≤ movedF l (p + 1) false := mvF_next _ _ _ (by rw [pos_len]; exact h)
end Go.Eng

/-
  Plain facts on changes: one behind the other. No condition.
-/
namespace Go.Eng
open Go
/-- two changes byte by byte, one behind the other; none: they are apart -/
def compA : List Atm → List Atm → Option (List Atm)
  | xs, .p b :: ys => (compA xs ys).map (.p b :: ·)
  | .d b :: xs, [] => (compA xs []).map (.d b :: ·)
  | .d b :: xs, .k :: ys => (compA xs (.k :: ys)).map (.d b :: ·)
  | .d b :: xs, .d c :: ys => (compA xs (.d c :: ys)).map (.d b :: ·)
  | [], [] => some []
  | [], .k :: _ => some []
  | [], .d _ :: _ => some []
  | .k :: _, [] => some []
  | .p _ :: _, [] => some []
  | .k :: xs, .k :: ys => (compA xs ys).map (.k :: ·)
  | .k :: xs, .d c :: ys => (compA xs ys).map (.d c :: ·)
  | .p b :: xs, .k :: ys => (compA xs ys).map (.p b :: ·)
  | .p b :: xs, .d c :: ys => if b = c then compA xs ys else none
termination_by xs ys => xs.length + ys.length
def notPut : List Atm → Bool
  | .p _ :: _ => false
  | _ => true
theorem compA_p (xs : List Atm) (b : UInt8) (ys : List Atm) : compA xs (.p b :: ys) = (compA xs ys).map (.p b :: ·) := by rw [compA]
theorem compA_d (b : UInt8) (xs ys : List Atm) (h : notPut ys = true) : compA (.d b :: xs) ys = (compA xs ys).map (.d b :: ·) := by
  match ys, h with
  | [], _ => rw [compA]
  | .k :: _, _ => rw [compA]
  | .d _ :: _, _ => rw [compA]
  | .p _ :: _, h => simp [notPut] at h
theorem compA_nil (ys : List Atm) (h : notPut ys = true) : compA [] ys = some [] := by
  match ys, h with
  | [], _ => rw [compA]
  | .k :: _, _ => rw [compA]
  | .d _ :: _, _ => rw [compA]
  | .p _ :: _, h => simp [notPut] at h
theorem compA_ps (xs : List Atm) : ∀ (ds : List UInt8) (ys : List Atm), compA xs (ds.map .p ++ ys) = (compA xs ys).map (ds.map .p ++ ·)
  | [], ys => by simp
  | b :: ds, ys => by
    rw [List.map_cons, List.cons_append, compA_p, compA_ps xs ds ys, Option.map_map]; rfl
theorem compA_ds : ∀ (ds : List UInt8) (xs ys : List Atm), notPut ys = true → compA (ds.map .d ++ xs) ys = (compA xs ys).map (ds.map .d ++ ·)
  | [], xs, ys, _ => by simp
  | b :: ds, xs, ys, h => by
    rw [List.map_cons, List.cons_append, compA_d _ _ _ h, compA_ds ds xs ys h, Option.map_map]; rfl
theorem compA_kk : ∀ (n : Nat) (xs ys : List Atm), compA (List.replicate n .k ++ xs) (List.replicate n .k ++ ys) = (compA xs ys).map (List.replicate n .k ++ ·)
  | 0, xs, ys => by simp
  | n + 1, xs, ys => by
    rw [List.replicate_succ, List.cons_append, List.cons_append, compA, compA_kk n xs ys, Option.map_map]; rfl
theorem compA_kd : ∀ (ds : List UInt8) (xs ys : List Atm), compA (List.replicate ds.length .k ++ xs) (ds.map .d ++ ys) = (compA xs ys).map (ds.map .d ++ ·)
  | [], xs, ys => by simp
  | b :: ds, xs, ys => by
    rw [List.length_cons, List.replicate_succ, List.map_cons, List.cons_append, List.cons_append, compA, compA_kd ds xs ys, Option.map_map]; rfl
theorem compA_pk : ∀ (ds : List UInt8) (xs ys : List Atm), compA (ds.map .p ++ xs) (List.replicate ds.length .k ++ ys) = (compA xs ys).map (ds.map .p ++ ·)
  | [], xs, ys => by simp
  | b :: ds, xs, ys => by
    rw [List.length_cons, List.replicate_succ, List.map_cons, List.cons_append, List.cons_append, compA, compA_pk ds xs ys, Option.map_map]; rfl
theorem compA_pd : ∀ (ds es : List UInt8) (xs ys : List Atm), ds.length = es.length → compA (ds.map .p ++ xs) (es.map .d ++ ys) = if ds = es then compA xs ys else none
  | [], [], xs, ys, _ => by simp
  | b :: ds, c :: es, xs, ys, h => by
    rw [List.map_cons, List.map_cons, List.cons_append, List.cons_append, compA, compA_pd ds es xs ys (by simpa using h)]
    by_cases hb : b = c
    · subst hb; simp
    · simp [hb]
  | [], _ :: _, _, _, h => by simp at h
  | _ :: _, [], _, _, h => by simp at h
/-- how many bytes a change is of, and makes -/
def fromA : List Atm → Nat
  | [] => 0
  | .k :: l => fromA l + 1
  | .d _ :: l => fromA l + 1
  | .p _ :: l => fromA l
def toA : List Atm → Nat
  | [] => 0
  | .k :: l => toA l + 1
  | .d _ :: l => toA l
  | .p _ :: l => toA l + 1
theorem fromA_append : ∀ x y : List Atm, fromA (x ++ y) = fromA x + fromA y
  | [], y => by simp [fromA]
  | .k :: x, y => by simp only [List.cons_append, fromA, fromA_append x y]; omega
  | .d _ :: x, y => by simp only [List.cons_append, fromA, fromA_append x y]; omega
  | .p _ :: x, y => by simp only [List.cons_append, fromA, fromA_append x y]
theorem toA_append : ∀ x y : List Atm, toA (x ++ y) = toA x + toA y
  | [], y => by simp [toA]
  | .k :: x, y => by simp only [List.cons_append, toA, toA_append x y]; omega
  | .d _ :: x, y => by simp only [List.cons_append, toA, toA_append x y]
  | .p _ :: x, y => by simp only [List.cons_append, toA, toA_append x y]; omega
theorem fromA_d (l : List UInt8) : fromA (l.map .d) = l.length := by induction l with
  | nil => rfl
  | cons a l ih => simp [fromA, ih]
theorem fromA_p (l : List UInt8) : fromA (l.map .p) = 0 := by induction l with
  | nil => rfl
  | cons a l ih => simp [fromA, ih]
theorem toA_d (l : List UInt8) : toA (l.map .d) = 0 := by induction l with
  | nil => rfl
  | cons a l ih => simp [toA, ih]
theorem toA_p (l : List UInt8) : toA (l.map .p) = l.length := by induction l with
  | nil => rfl
  | cons a l ih => simp [toA, ih]
theorem fromA_k (n : Nat) : fromA (List.replicate n .k) = n := by induction n with
  | zero => rfl
  | succ n ih => simp [List.replicate_succ, fromA, ih]
theorem toA_k (n : Nat) : toA (List.replicate n .k) = n := by induction n with
  | zero => rfl
  | succ n ih => simp [List.replicate_succ, toA, ih]
theorem from_step (s : Stp) : fromA s.atoms = s.k.toNat + s.d.length := by simp [Stp.atoms, fromA_append, fromA_k, fromA_d, fromA_p]
theorem to_step (s : Stp) : toA s.atoms = s.k.toNat + s.p.length := by simp [Stp.atoms, toA_append, toA_k, toA_d, toA_p]
/-- sizes of a change that may be -/
theorem sizesF_some : ∀ (l : List Stp) (f t a b : Int), 0 ≤ f → 0 ≤ t → sizesF l f t = some (a, b) → (∀ s ∈ l, stpOk s ∧ s.k ≤ maxT) ∧ a = f + (fromA (atomsOf l) : Int) ∧ b = t + (toA (atomsOf l) : Int) ∧ (l ≠ [] → a ≤ maxT ∧ b ≤ maxT)
  | [], f, t, a, b, _, _, h => by
    simp only [sizesF, Option.some.injEq, Prod.mk.injEq] at h
    obtain ⟨rfl, rfl⟩ := h
    simp [atomsOf, fromA, toA]
  | s :: l, f, t, a, b, hf, ht, h => by
    rw [sizesF] at h
    split at h
    · rename_i hc
      obtain ⟨h1, h2, h3, h4⟩ := hc
      have hk : 0 ≤ s.k := by rcases h1 with ⟨h, _, _⟩ | ⟨h, _, _⟩ | ⟨h, _, _⟩ <;> omega
      obtain ⟨g1, g2, g3, g4⟩ := sizesF_some l _ _ a b (by omega) (by omega) h
      refine ⟨?_, ?_, ?_, fun _ => ?_⟩
      · intro x hx
        rcases List.mem_cons.1 hx with rfl | hx
        · exact ⟨h1, h2⟩
        · exact g1 x hx
      · rw [g2, atoms_cons, fromA_append, from_step]; omega
      · rw [g3, atoms_cons, toA_append, to_step]; omega
      · by_cases hl : l = []
        · subst hl
          simp only [sizesF, Option.some.injEq, Prod.mk.injEq] at h
          omega
        · exact g4 hl
    · cases h
theorem sizesOf_some {l : List Stp} {a b : Int} (h : sizesOf l = some (a, b)) : (∀ s ∈ l, stpOk s ∧ s.k ≤ maxT) ∧ a = (fromA (atomsOf l) : Int) ∧ b = (toA (atomsOf l) : Int) ∧ a ≤ maxT ∧ b ≤ maxT := by
  obtain ⟨h1, h2, h3, h4⟩ := sizesF_some l 0 0 a b (by omega) (by omega) h
  refine ⟨h1, by omega, by omega, ?_⟩
  by_cases hl : l = []
  · subst hl
    simp only [sizesOf, sizesF, Option.some.injEq, Prod.mk.injEq] at h
    unfold maxT; omega
  · exact h4 hl
/-- the gaps of a change, byte by byte -/
def Gs.atom (g : Gs) : Atm → Gs
  | .k => ⟨g.done ++ [g.cur], ⟨[], []⟩⟩
  | .d c => ⟨g.done, ⟨g.cur.p, g.cur.d ++ [c]⟩⟩
  | .p c => ⟨g.done, ⟨g.cur.p ++ [c], g.cur.d⟩⟩
def Gs.run (g : Gs) (l : List Atm) : Gs := l.foldl Gs.atom g
theorem grun_append (b : Gs) (x y : List Atm) : b.run (x ++ y) = (b.run x).run y := List.foldl_append ..
theorem grun_d (b : Gs) : ∀ ds : List UInt8, b.run (ds.map .d) = ⟨b.done, ⟨b.cur.p, b.cur.d ++ ds⟩⟩
  | [] => by cases b; simp [Gs.run]
  | x :: ds => by
    have h := grun_d (b.atom (.d x)) ds
    simp only [Gs.run, List.map_cons, List.foldl_cons] at h ⊢
    rw [h]; simp [Gs.atom]
theorem grun_p (b : Gs) : ∀ ds : List UInt8, b.run (ds.map .p) = ⟨b.done, ⟨b.cur.p ++ ds, b.cur.d⟩⟩
  | [] => by cases b; simp [Gs.run]
  | x :: ds => by
    have h := grun_p (b.atom (.p x)) ds
    simp only [Gs.run, List.map_cons, List.foldl_cons] at h ⊢
    rw [h]; simp [Gs.atom]
theorem grun_k (b : Gs) : ∀ n : Nat, b.run (List.replicate (n + 1) .k) = b.keeps (n + 1)
  | 0 => by simp [Gs.run, Gs.atom, Gs.keeps, List.replicate]
  | n + 1 => by
    rw [List.replicate_succ', grun_append, grun_k b n]
    simp only [Gs.run, List.foldl_cons, List.foldl_nil, Gs.atom, Gs.keeps]
    simp [List.replicate_succ']
theorem grun_step (g : Gs) (s : Stp) (h : stpOk s) : g.run s.atoms = g.step s := by
  obtain ⟨k, d, p⟩ := s
  rcases h with ⟨h1, h2, h3⟩ | ⟨h1, h2, h3⟩ | ⟨h1, h2, h3⟩
  · simp only at h1 h2 h3
    subst h2; subst h3
    simp only [Stp.atoms, List.map_nil, List.append_nil, Gs.step, h1, if_true]
    obtain ⟨n, hn⟩ : ∃ n, k.toNat = n + 1 := ⟨k.toNat - 1, by omega⟩
    rw [hn, grun_k]; simp [Gs.keeps]
  · simp only at h1 h2 h3
    subst h1; subst h3
    simp [Stp.atoms, Gs.step, h2, grun_d]
  · simp only at h1 h2 h3
    subst h1; subst h2
    simp [Stp.atoms, Gs.step, grun_p]
theorem gaps_run : ∀ (l : List Stp) (g : Gs), (∀ s ∈ l, stpOk s) → g.run (atomsOf l) = l.foldl Gs.step g
  | [], g, _ => rfl
  | s :: l, g, h => by
    rw [atoms_cons, grun_append, grun_step g s (h s List.mem_cons_self), gaps_run l _ (fun x hx => h x (List.mem_cons_of_mem _ hx)), List.foldl_cons]
theorem gapsOf_run (l : List Stp) (h : ∀ s ∈ l, stpOk s) : gapsOf l = Gs.start.run (atomsOf l) := (gaps_run l _ h).symm
theorem nf_append (g : Gs) (x : Gap) (c : Gap) : nfOf ⟨g.done ++ [x], c⟩ = g.done.flatMap (fun x => gapA x ++ [.k]) ++ gapA x ++ [.k] ++ gapA c := by simp [nfOf]
/-- what a change is of, and makes, by its gaps -/
theorem nf_from (g : Gs) (a : Atm) : fromA (nfOf (g.atom a)) = fromA (nfOf g) + fromA [a] ∧ toA (nfOf (g.atom a)) = toA (nfOf g) + toA [a] := by
  cases a <;> simp only [Gs.atom, nfOf, gapA, List.flatMap_append, List.flatMap_cons, List.flatMap_nil, fromA_append, toA_append, List.map_append, fromA_p, fromA_d, toA_p, toA_d, fromA, toA, List.map_cons, List.map_nil, List.append_nil] <;> omega
theorem nf_run : ∀ (l : List Atm) (g : Gs), fromA (nfOf (g.run l)) = fromA (nfOf g) + fromA l ∧ toA (nfOf (g.run l)) = toA (nfOf g) + toA l
  | [], g => ⟨rfl, rfl⟩
  | a :: l, g => by
    obtain ⟨h1, h2⟩ := nf_run l (g.atom a)
    obtain ⟨h3, h4⟩ := nf_from g a
    have e1 : fromA (a :: l) = fromA [a] + fromA l := fromA_append [a] l
    have e2 : toA (a :: l) = toA [a] + toA l := toA_append [a] l
    rw [show g.run (a :: l) = (g.atom a).run l from rfl, h1, h2, h3, h4, e1, e2]
    omega
theorem nf_sizes (l : List Stp) (h : ∀ s ∈ l, stpOk s) : fromA (nfOf (gapsOf l)) = fromA (atomsOf l) ∧ toA (nfOf (gapsOf l)) = toA (atomsOf l) := by
  obtain ⟨h1, h2⟩ := nf_run (atomsOf l) Gs.start
  rw [gapsOf_run l h, h1, h2]
  simp [Gs.start, nfOf, gapA, fromA, toA]
theorem sd_from (last : List UInt8) : ∀ ps : List Pos, fromA (sdA ps last) = ps.length
  | [] => by rw [sdA_nil, fromA_p]; rfl
  | x :: ps => by
    rw [sdA_cons, fromA_append, fromA_p]
    cases h : x.2.1 <;> simp [fromA, sd_from last ps]
theorem drops_from (l : List Stp) (h : ∀ s ∈ l, stpOk s) : (dropsOf (gapsOf l)).length = fromA (atomsOf l) := by
  rw [← pos_len, ← sd_from (lastOf (gapsOf l)), sd_atoms, (nf_sizes l h).1]
end Go.Eng

/-
  The walks of package edit, first part: the law's own copy of a change, the sizes of a change. No condition.
-/
namespace Go.Eng
def Stp.cs (s : Stp) : List Value := [.int .i64 s.k, str s.d, str s.p]
/-- how much of a change the law goes through -/
def refN : List Stp → Nat → Int → Bool
  | [], _, _ => true
  | s :: l, i, n =>
    let n' := n + ((s.d.length : Int) + (s.p.length : Int)) + (if 0 < s.k ∧ s.k ≤ 65536 then s.k / 8 else 0)
    if 5000 < n' ∨ 5000 < i then false else refN l (i + 1) n'
def smallOf (l : List Stp) : Bool := refN l 0 0
/-- of such size that no number grows too large -/
structure Fit (l : List Stp) : Prop where
  len : l.length ≤ 1048576
  k : ∀ s ∈ l, -9223372036854775808 ≤ s.k ∧ s.k ≤ 9223372036854775807
  d : ∀ s ∈ l, s.d.length ≤ 1048576
  p : ∀ s ∈ l, s.p.length ≤ 1048576
theorem sizesF_good {x : Stp} {l : List Stp} {f t : Int} (h1 : stpOk x) (h2 : x.k ≤ 65536) (h3 : f + x.k + x.d.length ≤ 65536) (h4 : t + x.k + x.p.length ≤ 65536) : sizesF (x :: l) f t = sizesF l (f + x.k + x.d.length) (t + x.k + x.p.length) := if_pos ⟨h1, h2, h3, h4⟩
theorem sizesF_bad {x : Stp} {l : List Stp} {f t : Int} (h : ¬ (stpOk x ∧ x.k ≤ 65536 ∧ f + x.k + x.d.length ≤ 65536 ∧ t + x.k + x.p.length ≤ 65536)) : sizesF (x :: l) f t = none := if_neg h
def szR : Option (Int × Int) → Value
  | some (a, b) => .tuple #[.int .i64 a, .int .i64 b, .bool true]
  | none => .tuple #[.int .i64 0, .int .i64 0, .bool false]
def szP : Option (Int × Int) → Value
  | some (a, b) => .tuple #[.int .i64 a, .int .i64 b, .int .i64 0]
  | none => .tuple #[.int .i64 0, .int .i64 0, .int .i64 2]
end Go.Eng
namespace Go.Proofs.Ytelgegefmjlimaa
open Go Go.Eng
set_option maxRecDepth 100000
set_option maxHeartbeats 4000000
set_option linter.all false
attribute [local irreducible] WL WC WQ QFun QLoop Does Q1 QRound QAssign Go.Addr.add
theorem ref_any {a : Option Addr} {cap : Nat} {l : List Stp} (hf : Fit l) (w0 : World) (m : Mem) (H : SHeap) (hr : ∀ Hp, RowR w0 m Hp 3 a (l.map Stp.cs)) :
    Does Try.prog 13 #[.slice a l.length cap] w0 m H (fun v m' H' => m' = m ∧ ((smallOf l = true ∧ ∃ c cp, v = .tuple #[.slice c l.length cp, .bool true] ∧ H' = .row c cp 84 3 (l.map Stp.cs) :: H) ∨ (smallOf l = false ∧ v = .tuple #[.slice none 0 0, .bool false] ∧ H' = H))) := by
  refine Does.of_body (args := [.slice a l.length cap]) Try.func13 rfl Try.ntmps13 rfl ?_
  have hln : (l.map Stp.cs).length = l.length := by simp
  have hlen := hf.len
  (try (refine st ?_; intros))
  refine WC.loopH [(5, .int .i64 ((0) : Int)), (4, .int .i64 (0)), (0, .slice a l.length cap)] ?_ ?_ (fun j r ds m' H' => ∃ (i : _) (n : Int), j = l.length - i ∧ r = [(5, .int .i64 (i : Int)), (4, .int .i64 n), (0, .slice a l.length cap)] ∧ ds = [] ∧ m = m' ∧ H' = H ∧ (i ≤ l.length) ∧ (0 ≤ n ∧ n ≤ 5000) ∧ (refN (l.drop i) i n = smallOf l)) (l.length - (0)) ⟨0, 0, rfl, rfl, rfl, rfl, rfl, by omega, by omega, rfl⟩ ?_
  · (repeat (first | exact Env.Sub.nil | refine Env.Sub.cons rfl ?_))
  · exact (fun w h => Pick.sat (by iterate 60 (try (first | exact Pick.all | (apply Pick.take; (· (repeat (first | exact Out.here | apply Out.there)))) | apply Pick.drop))) h)
  rintro j r ds m' H' ⟨i, n, rfl, rfl, rfl, rfl, rfl, hi, hn, hs⟩
  generalize H' = H
  by_cases hlt : i < l.length
  · obtain ⟨x, hx, hget, htk, hmem, hdr⟩ := at_idx (f := Stp.cs) hlt
    have hk := hf.k x hmem
    have hd := hf.d x hmem
    have hp := hf.p x hmem
    rw [hdr, refN] at hs
    have hr1 := hr H
    refine WC.rSome hr1 (by omega) ?_
    rintro a0 rfl
    by_cases h1 : 0 < x.k ∧ x.k ≤ 65536
    · simp only [h1, and_self, if_true] at hs
      by_cases h2 : 5000 < n + ((x.d.length : Int) + (x.p.length : Int)) + x.k / 8 ∨ 5000 < (i : Int)
      · rw [if_pos (by omega)] at hs
        rcases Decidable.em (5000 < n + ((x.d.length : Int) + (x.p.length : Int)) + x.k / 8) with h3 | h3
        all_goals ((try (refine st ?_; intros)); exact q_fin0 (H0 := H) ⟨rfl, .inr ⟨hs.symm, rfl, rfl⟩⟩ (hd := (fun w h => Pick.sat (by iterate 60 (try (first | exact Pick.all | (apply Pick.take; (· (repeat (first | exact Out.here | apply Out.there)))) | apply Pick.drop))) h)))
      · rw [if_neg (by omega)] at hs
        (try (refine st ?_; intros))
        refine WQ.next (l.length - (i + 1)) ⟨i + 1, _, rfl, rfl, rfl, rfl, rfl, ?_, ?_, ?_⟩ (by omega) (by (repeat (first | exact Env.Sub.nil | refine Env.Sub.cons rfl ?_))) (fun w h => Pick.sat (by iterate 60 (try (first | exact Pick.all | (apply Pick.take; (· (repeat (first | exact Out.here | apply Out.there)))) | apply Pick.drop))) h)
        · omega
        · omega
        · exact hs
    · simp only [h1, if_false, Int.add_zero] at hs
      by_cases h2 : 5000 < n + ((x.d.length : Int) + (x.p.length : Int)) ∨ 5000 < (i : Int)
      · rw [if_pos (by omega)] at hs
        rcases Decidable.em (5000 < n + ((x.d.length : Int) + (x.p.length : Int))) with h3 | h3 <;> rcases Decidable.em (0 < x.k) with h4 | h4
        all_goals ((try (refine st ?_; intros)); exact q_fin0 (H0 := H) ⟨rfl, .inr ⟨hs.symm, rfl, rfl⟩⟩ (hd := (fun w h => Pick.sat (by iterate 60 (try (first | exact Pick.all | (apply Pick.take; (· (repeat (first | exact Out.here | apply Out.there)))) | apply Pick.drop))) h)))
      · rw [if_neg (by omega)] at hs
        rcases Decidable.em (0 < x.k) with h4 | h4
        · (try (refine st ?_; intros))
          refine WQ.next (l.length - (i + 1)) ⟨i + 1, _, rfl, rfl, rfl, rfl, rfl, ?_, ?_, ?_⟩ (by omega) (by (repeat (first | exact Env.Sub.nil | refine Env.Sub.cons rfl ?_))) (fun w h => Pick.sat (by iterate 60 (try (first | exact Pick.all | (apply Pick.take; (· (repeat (first | exact Out.here | apply Out.there)))) | apply Pick.drop))) h)
          · omega
          · omega
          · exact hs
        · (try (refine st ?_; intros))
          refine WQ.next (l.length - (i + 1)) ⟨i + 1, _, rfl, rfl, rfl, rfl, rfl, ?_, ?_, ?_⟩ (by omega) (by (repeat (first | exact Env.Sub.nil | refine Env.Sub.cons rfl ?_))) (fun w h => Pick.sat (by iterate 60 (try (first | exact Pick.all | (apply Pick.take; (· (repeat (first | exact Out.here | apply Out.there)))) | apply Pick.drop))) h)
          · omega
          · omega
          · exact hs
  · obtain rfl : i = l.length := by omega
    rw [List.drop_length, refN] at hs
    (try (refine st ?_; intros))
    refine WC.newRow (T := 84) (sz := 3) ?_
    refine WC.loopH [(7, .int .i64 ((0) : Int)), (6, .slice (none) (0) (0)), (0, .slice a l.length cap)] ?_ ?_ (fun j r ds m' H' => ∃ i c cp k, j = l.length - i ∧ r = [(7, .int .i64 (i : Int)), (6, .slice c k cp), (0, .slice a l.length cap)] ∧ ds = [] ∧ m = m' ∧ H' = .row c cp 84 3 ((l.map Stp.cs).take i) :: H ∧ (i ≤ l.length) ∧ (k = i)) (l.length - (0)) ⟨0, none, 0, 0, rfl, rfl, rfl, rfl, rfl, by omega, rfl⟩ ?_
    · (repeat (first | exact Env.Sub.nil | refine Env.Sub.cons rfl ?_))
    · exact (fun w h => Pick.sat (by iterate 60 (try (first | exact Pick.all | (apply Pick.take; (· (repeat (first | exact Out.here | apply Out.there)))) | apply Pick.drop))) h)
    rintro j r ds m' H' ⟨i, c, cp, k, rfl, rfl, rfl, rfl, rfl, hi2, hk⟩
    subst hk
    by_cases hlt : k < l.length
    · obtain ⟨x, hx, hget, htk, hmem, hdr⟩ := at_idx (f := Stp.cs) hlt
      have hr1 := hr (.row c cp 84 3 ((l.map Stp.cs).take k) :: H)
      have htl : ((l.map Stp.cs).take k).length = k := by simp; omega
      have e : (l.map Stp.cs).take k ++ [x.cs] = (l.map Stp.cs).take (k + 1) := by rw [List.take_add_one, hget]; rfl
      refine WC.rSome hr1 (by omega) ?_
      rintro a0 rfl
      (try (refine st ?_; intros))
      refine WC.drawE 20 ([]) (.row c cp 84 3 ((l.map Stp.cs).take k) :: H) rfl (by decide +kernel) (fun w h => Pick.sat (by iterate 60 (try (first | exact Pick.all | (apply Pick.take; (· (repeat (first | exact Out.here | apply Out.there)))) | apply Pick.drop))) h) ?_
      ((try (refine WE.calm 0 (by decide +kernel) rfl rfl (by decide +kernel) rfl (fun c h => by cases h) (by intro zm zF zle; have hrz := (hr ([] ++ zF)).le zle; ((repeat (refine sp ?_; intros)); exact WQ.q1 rfl)) ?_)); (try (refine WE.calm 1 (by decide +kernel) rfl rfl (by decide +kernel) rfl (fun c h => by cases h) (by intro zm zF zle; have hrz := (hr ([] ++ zF)).le zle; ((repeat (refine sp ?_; intros)); exact WQ.q1 rfl)) ?_)); (try (refine WE.calm 2 (by decide +kernel) rfl rfl (by decide +kernel) rfl (fun c h => by cases h) (by intro zm zF zle; have hrz := (hr ([] ++ zF)).le zle; ((repeat (refine sp ?_; intros)); exact WQ.q1 rfl)) ?_)); (try (refine WE.calm 3 (by decide +kernel) rfl rfl (by decide +kernel) rfl (fun c h => by cases h) (by intro zm zF zle; have hrz := (hr ([] ++ zF)).le zle; ((repeat (refine sp ?_; intros)); exact WQ.q1 rfl)) ?_)); (try (refine WE.calm 4 (by decide +kernel) rfl rfl (by decide +kernel) rfl (fun c h => by cases h) (by intro zm zF zle; have hrz := (hr ([] ++ zF)).le zle; ((repeat (refine sp ?_; intros)); exact WQ.q1 rfl)) ?_)); (try (refine WE.calm 5 (by decide +kernel) rfl rfl (by decide +kernel) rfl (fun c h => by cases h) (by intro zm zF zle; have hrz := (hr ([] ++ zF)).le zle; ((repeat (refine sp ?_; intros)); exact WQ.q1 rfl)) ?_)); (try (refine WE.calm 6 (by decide +kernel) rfl rfl (by decide +kernel) rfl (fun c h => by cases h) (by intro zm zF zle; have hrz := (hr ([] ++ zF)).le zle; ((repeat (refine sp ?_; intros)); exact WQ.q1 rfl)) ?_)); (try (refine WE.calm 7 (by decide +kernel) rfl rfl (by decide +kernel) rfl (fun c h => by cases h) (by intro zm zF zle; have hrz := (hr ([] ++ zF)).le zle; ((repeat (refine sp ?_; intros)); exact WQ.q1 rfl)) ?_)); (try (refine WE.calm 8 (by decide +kernel) rfl rfl (by decide +kernel) rfl (fun c h => by cases h) (by intro zm zF zle; have hrz := (hr ([] ++ zF)).le zle; ((repeat (refine sp ?_; intros)); exact WQ.q1 rfl)) ?_)); (try (refine WE.calm 9 (by decide +kernel) rfl rfl (by decide +kernel) rfl (fun c h => by cases h) (by intro zm zF zle; have hrz := (hr ([] ++ zF)).le zle; ((repeat (refine sp ?_; intros)); exact WQ.q1 rfl)) ?_)); (try (refine WE.calm 10 (by decide +kernel) rfl rfl (by decide +kernel) rfl (fun c h => by cases h) (by intro zm zF zle; have hrz := (hr ([] ++ zF)).le zle; ((repeat (refine sp ?_; intros)); exact WQ.q1 rfl)) ?_)); (try (refine WE.calm 11 (by decide +kernel) rfl rfl (by decide +kernel) rfl (fun c h => by cases h) (by intro zm zF zle; have hrz := (hr ([] ++ zF)).le zle; ((repeat (refine sp ?_; intros)); exact WQ.q1 rfl)) ?_)); (try (refine WE.calm 12 (by decide +kernel) rfl rfl (by decide +kernel) rfl (fun c h => by cases h) (by intro zm zF zle; have hrz := (hr ([] ++ zF)).le zle; ((repeat (refine sp ?_; intros)); exact WQ.q1 rfl)) ?_)); (try (refine WE.calm 13 (by decide +kernel) rfl rfl (by decide +kernel) rfl (fun c h => by cases h) (by intro zm zF zle; have hrz := (hr ([] ++ zF)).le zle; ((repeat (refine sp ?_; intros)); exact WQ.q1 rfl)) ?_)); (try (refine WE.calm 14 (by decide +kernel) rfl rfl (by decide +kernel) rfl (fun c h => by cases h) (by intro zm zF zle; have hrz := (hr ([] ++ zF)).le zle; ((repeat (refine sp ?_; intros)); exact WQ.q1 rfl)) ?_)); (try (refine WE.calm 15 (by decide +kernel) rfl rfl (by decide +kernel) rfl (fun c h => by cases h) (by intro zm zF zle; have hrz := (hr ([] ++ zF)).le zle; ((repeat (refine sp ?_; intros)); exact WQ.q1 rfl)) ?_)); (try (refine WE.calm 16 (by decide +kernel) rfl rfl (by decide +kernel) rfl (fun c h => by cases h) (by intro zm zF zle; have hrz := (hr ([] ++ zF)).le zle; ((repeat (refine sp ?_; intros)); exact WQ.q1 rfl)) ?_)); (try (refine WE.calm 17 (by decide +kernel) rfl rfl (by decide +kernel) rfl (fun c h => by cases h) (by intro zm zF zle; have hrz := (hr ([] ++ zF)).le zle; ((repeat (refine sp ?_; intros)); exact WQ.q1 rfl)) ?_)); (try (refine WE.calm 18 (by decide +kernel) rfl rfl (by decide +kernel) rfl (fun c h => by cases h) (by intro zm zF zle; have hrz := (hr ([] ++ zF)).le zle; ((repeat (refine sp ?_; intros)); exact WQ.q1 rfl)) ?_)); (try (refine WE.calm 19 (by decide +kernel) rfl rfl (by decide +kernel) rfl (fun c h => by cases h) (by intro zm zF zle; have hrz := (hr ([] ++ zF)).le zle; ((repeat (refine sp ?_; intros)); exact WQ.q1 rfl)) ?_)); (try (refine WE.calm 20 (by decide +kernel) rfl rfl (by decide +kernel) rfl (fun c h => by cases h) (by intro zm zF zle; have hrz := (hr ([] ++ zF)).le zle; ((repeat (refine sp ?_; intros)); exact WQ.q1 rfl)) ?_)); (try (refine WE.calm 21 (by decide +kernel) rfl rfl (by decide +kernel) rfl (fun c h => by cases h) (by intro zm zF zle; have hrz := (hr ([] ++ zF)).le zle; ((repeat (refine sp ?_; intros)); exact WQ.q1 rfl)) ?_)); (try (refine WE.calm 22 (by decide +kernel) rfl rfl (by decide +kernel) rfl (fun c h => by cases h) (by intro zm zF zle; have hrz := (hr ([] ++ zF)).le zle; ((repeat (refine sp ?_; intros)); exact WQ.q1 rfl)) ?_)); (try (refine WE.calm 23 (by decide +kernel) rfl rfl (by decide +kernel) rfl (fun c h => by cases h) (by intro zm zF zle; have hrz := (hr ([] ++ zF)).le zle; ((repeat (refine sp ?_; intros)); exact WQ.q1 rfl)) ?_)); (try (refine WE.calm 24 (by decide +kernel) rfl rfl (by decide +kernel) rfl (fun c h => by cases h) (by intro zm zF zle; have hrz := (hr ([] ++ zF)).le zle; ((repeat (refine sp ?_; intros)); exact WQ.q1 rfl)) ?_)); (try (refine WE.calm 25 (by decide +kernel) rfl rfl (by decide +kernel) rfl (fun c h => by cases h) (by intro zm zF zle; have hrz := (hr ([] ++ zF)).le zle; ((repeat (refine sp ?_; intros)); exact WQ.q1 rfl)) ?_)); (try (refine WE.calm 26 (by decide +kernel) rfl rfl (by decide +kernel) rfl (fun c h => by cases h) (by intro zm zF zle; have hrz := (hr ([] ++ zF)).le zle; ((repeat (refine sp ?_; intros)); exact WQ.q1 rfl)) ?_)); (try (refine WE.calm 27 (by decide +kernel) rfl rfl (by decide +kernel) rfl (fun c h => by cases h) (by intro zm zF zle; have hrz := (hr ([] ++ zF)).le zle; ((repeat (refine sp ?_; intros)); exact WQ.q1 rfl)) ?_)); (try (refine WE.calm 28 (by decide +kernel) rfl rfl (by decide +kernel) rfl (fun c h => by cases h) (by intro zm zF zle; have hrz := (hr ([] ++ zF)).le zle; ((repeat (refine sp ?_; intros)); exact WQ.q1 rfl)) ?_)); (try (refine WE.calm 29 (by decide +kernel) rfl rfl (by decide +kernel) rfl (fun c h => by cases h) (by intro zm zF zle; have hrz := (hr ([] ++ zF)).le zle; ((repeat (refine sp ?_; intros)); exact WQ.q1 rfl)) ?_)); (try (refine WE.calm 30 (by decide +kernel) rfl rfl (by decide +kernel) rfl (fun c h => by cases h) (by intro zm zF zle; have hrz := (hr ([] ++ zF)).le zle; ((repeat (refine sp ?_; intros)); exact WQ.q1 rfl)) ?_)); (try (refine WE.calm 31 (by decide +kernel) rfl rfl (by decide +kernel) rfl (fun c h => by cases h) (by intro zm zF zle; have hrz := (hr ([] ++ zF)).le zle; ((repeat (refine sp ?_; intros)); exact WQ.q1 rfl)) ?_)); (try (refine WE.calm 32 (by decide +kernel) rfl rfl (by decide +kernel) rfl (fun c h => by cases h) (by intro zm zF zle; have hrz := (hr ([] ++ zF)).le zle; ((repeat (refine sp ?_; intros)); exact WQ.q1 rfl)) ?_)); (try (refine WE.calm 33 (by decide +kernel) rfl rfl (by decide +kernel) rfl (fun c h => by cases h) (by intro zm zF zle; have hrz := (hr ([] ++ zF)).le zle; ((repeat (refine sp ?_; intros)); exact WQ.q1 rfl)) ?_)); (try (refine WE.calm 34 (by decide +kernel) rfl rfl (by decide +kernel) rfl (fun c h => by cases h) (by intro zm zF zle; have hrz := (hr ([] ++ zF)).le zle; ((repeat (refine sp ?_; intros)); exact WQ.q1 rfl)) ?_)); (try (refine WE.calm 35 (by decide +kernel) rfl rfl (by decide +kernel) rfl (fun c h => by cases h) (by intro zm zF zle; have hrz := (hr ([] ++ zF)).le zle; ((repeat (refine sp ?_; intros)); exact WQ.q1 rfl)) ?_)); (try (refine WE.calm 36 (by decide +kernel) rfl rfl (by decide +kernel) rfl (fun c h => by cases h) (by intro zm zF zle; have hrz := (hr ([] ++ zF)).le zle; ((repeat (refine sp ?_; intros)); exact WQ.q1 rfl)) ?_)); (try (refine WE.calm 37 (by decide +kernel) rfl rfl (by decide +kernel) rfl (fun c h => by cases h) (by intro zm zF zle; have hrz := (hr ([] ++ zF)).le zle; ((repeat (refine sp ?_; intros)); exact WQ.q1 rfl)) ?_)); (try (refine WE.calm 38 (by decide +kernel) rfl rfl (by decide +kernel) rfl (fun c h => by cases h) (by intro zm zF zle; have hrz := (hr ([] ++ zF)).le zle; ((repeat (refine sp ?_; intros)); exact WQ.q1 rfl)) ?_)); (try (refine WE.calm 39 (by decide +kernel) rfl rfl (by decide +kernel) rfl (fun c h => by cases h) (by intro zm zF zle; have hrz := (hr ([] ++ zF)).le zle; ((repeat (refine sp ?_; intros)); exact WQ.q1 rfl)) ?_)); (try (refine WE.calm 40 (by decide +kernel) rfl rfl (by decide +kernel) rfl (fun c h => by cases h) (by intro zm zF zle; have hrz := (hr ([] ++ zF)).le zle; ((repeat (refine sp ?_; intros)); exact WQ.q1 rfl)) ?_)); (try (refine WE.calm 41 (by decide +kernel) rfl rfl (by decide +kernel) rfl (fun c h => by cases h) (by intro zm zF zle; have hrz := (hr ([] ++ zF)).le zle; ((repeat (refine sp ?_; intros)); exact WQ.q1 rfl)) ?_)))
      refine WE.act1 17 (by decide +kernel) rfl rfl (fun c h => by cases h) ?_
      (refine st ?_; intros; rename_i q0)
      refine WQ.acted (B := []) (U := .blk q0 (.cells [.int .i64 x.k, str x.d, str x.p].toArray 84 (0, 0)) :: .row c cp 84 3 ((l.map Stp.cs).take k) :: H) rfl (Mem.le.refl _) (fun w h => Pick.sat (by iterate 60 (try (first | exact Pick.all | (apply Pick.take; (· (repeat (first | exact Out.here | apply Out.there)))) | apply Pick.drop))) h) ?_
      refine WE.act1 18 (by decide +kernel) rfl rfl (fun c h => by cases h) ?_
      (refine st ?_; intros; rename_i c2 cp2)
      refine WQ.acted (B := []) (U := .row c2 cp2 84 3 ((l.map Stp.cs).take k ++ [[.int .i64 x.k, str x.d, str x.p]]) :: H) rfl (Mem.le.refl _) (fun w h => Pick.sat (by iterate 60 (try (first | exact Pick.all | (apply Pick.take; (· (repeat (first | exact Out.here | apply Out.there)))) | apply Pick.drop))) h) ?_
      ((try (refine WE.calm 0 (by decide +kernel) rfl rfl (by decide +kernel) rfl (fun c h => by cases h) (by intro zm zF zle; have hrz := (hr ([] ++ zF)).le zle; ((repeat (refine sp ?_; intros)); exact WQ.q1 rfl)) ?_)); (try (refine WE.calm 1 (by decide +kernel) rfl rfl (by decide +kernel) rfl (fun c h => by cases h) (by intro zm zF zle; have hrz := (hr ([] ++ zF)).le zle; ((repeat (refine sp ?_; intros)); exact WQ.q1 rfl)) ?_)); (try (refine WE.calm 2 (by decide +kernel) rfl rfl (by decide +kernel) rfl (fun c h => by cases h) (by intro zm zF zle; have hrz := (hr ([] ++ zF)).le zle; ((repeat (refine sp ?_; intros)); exact WQ.q1 rfl)) ?_)); (try (refine WE.calm 3 (by decide +kernel) rfl rfl (by decide +kernel) rfl (fun c h => by cases h) (by intro zm zF zle; have hrz := (hr ([] ++ zF)).le zle; ((repeat (refine sp ?_; intros)); exact WQ.q1 rfl)) ?_)); (try (refine WE.calm 4 (by decide +kernel) rfl rfl (by decide +kernel) rfl (fun c h => by cases h) (by intro zm zF zle; have hrz := (hr ([] ++ zF)).le zle; ((repeat (refine sp ?_; intros)); exact WQ.q1 rfl)) ?_)); (try (refine WE.calm 5 (by decide +kernel) rfl rfl (by decide +kernel) rfl (fun c h => by cases h) (by intro zm zF zle; have hrz := (hr ([] ++ zF)).le zle; ((repeat (refine sp ?_; intros)); exact WQ.q1 rfl)) ?_)); (try (refine WE.calm 6 (by decide +kernel) rfl rfl (by decide +kernel) rfl (fun c h => by cases h) (by intro zm zF zle; have hrz := (hr ([] ++ zF)).le zle; ((repeat (refine sp ?_; intros)); exact WQ.q1 rfl)) ?_)); (try (refine WE.calm 7 (by decide +kernel) rfl rfl (by decide +kernel) rfl (fun c h => by cases h) (by intro zm zF zle; have hrz := (hr ([] ++ zF)).le zle; ((repeat (refine sp ?_; intros)); exact WQ.q1 rfl)) ?_)); (try (refine WE.calm 8 (by decide +kernel) rfl rfl (by decide +kernel) rfl (fun c h => by cases h) (by intro zm zF zle; have hrz := (hr ([] ++ zF)).le zle; ((repeat (refine sp ?_; intros)); exact WQ.q1 rfl)) ?_)); (try (refine WE.calm 9 (by decide +kernel) rfl rfl (by decide +kernel) rfl (fun c h => by cases h) (by intro zm zF zle; have hrz := (hr ([] ++ zF)).le zle; ((repeat (refine sp ?_; intros)); exact WQ.q1 rfl)) ?_)); (try (refine WE.calm 10 (by decide +kernel) rfl rfl (by decide +kernel) rfl (fun c h => by cases h) (by intro zm zF zle; have hrz := (hr ([] ++ zF)).le zle; ((repeat (refine sp ?_; intros)); exact WQ.q1 rfl)) ?_)); (try (refine WE.calm 11 (by decide +kernel) rfl rfl (by decide +kernel) rfl (fun c h => by cases h) (by intro zm zF zle; have hrz := (hr ([] ++ zF)).le zle; ((repeat (refine sp ?_; intros)); exact WQ.q1 rfl)) ?_)); (try (refine WE.calm 12 (by decide +kernel) rfl rfl (by decide +kernel) rfl (fun c h => by cases h) (by intro zm zF zle; have hrz := (hr ([] ++ zF)).le zle; ((repeat (refine sp ?_; intros)); exact WQ.q1 rfl)) ?_)); (try (refine WE.calm 13 (by decide +kernel) rfl rfl (by decide +kernel) rfl (fun c h => by cases h) (by intro zm zF zle; have hrz := (hr ([] ++ zF)).le zle; ((repeat (refine sp ?_; intros)); exact WQ.q1 rfl)) ?_)); (try (refine WE.calm 14 (by decide +kernel) rfl rfl (by decide +kernel) rfl (fun c h => by cases h) (by intro zm zF zle; have hrz := (hr ([] ++ zF)).le zle; ((repeat (refine sp ?_; intros)); exact WQ.q1 rfl)) ?_)); (try (refine WE.calm 15 (by decide +kernel) rfl rfl (by decide +kernel) rfl (fun c h => by cases h) (by intro zm zF zle; have hrz := (hr ([] ++ zF)).le zle; ((repeat (refine sp ?_; intros)); exact WQ.q1 rfl)) ?_)); (try (refine WE.calm 16 (by decide +kernel) rfl rfl (by decide +kernel) rfl (fun c h => by cases h) (by intro zm zF zle; have hrz := (hr ([] ++ zF)).le zle; ((repeat (refine sp ?_; intros)); exact WQ.q1 rfl)) ?_)); (try (refine WE.calm 17 (by decide +kernel) rfl rfl (by decide +kernel) rfl (fun c h => by cases h) (by intro zm zF zle; have hrz := (hr ([] ++ zF)).le zle; ((repeat (refine sp ?_; intros)); exact WQ.q1 rfl)) ?_)); (try (refine WE.calm 18 (by decide +kernel) rfl rfl (by decide +kernel) rfl (fun c h => by cases h) (by intro zm zF zle; have hrz := (hr ([] ++ zF)).le zle; ((repeat (refine sp ?_; intros)); exact WQ.q1 rfl)) ?_)); (try (refine WE.calm 19 (by decide +kernel) rfl rfl (by decide +kernel) rfl (fun c h => by cases h) (by intro zm zF zle; have hrz := (hr ([] ++ zF)).le zle; ((repeat (refine sp ?_; intros)); exact WQ.q1 rfl)) ?_)); (try (refine WE.calm 20 (by decide +kernel) rfl rfl (by decide +kernel) rfl (fun c h => by cases h) (by intro zm zF zle; have hrz := (hr ([] ++ zF)).le zle; ((repeat (refine sp ?_; intros)); exact WQ.q1 rfl)) ?_)); (try (refine WE.calm 21 (by decide +kernel) rfl rfl (by decide +kernel) rfl (fun c h => by cases h) (by intro zm zF zle; have hrz := (hr ([] ++ zF)).le zle; ((repeat (refine sp ?_; intros)); exact WQ.q1 rfl)) ?_)); (try (refine WE.calm 22 (by decide +kernel) rfl rfl (by decide +kernel) rfl (fun c h => by cases h) (by intro zm zF zle; have hrz := (hr ([] ++ zF)).le zle; ((repeat (refine sp ?_; intros)); exact WQ.q1 rfl)) ?_)); (try (refine WE.calm 23 (by decide +kernel) rfl rfl (by decide +kernel) rfl (fun c h => by cases h) (by intro zm zF zle; have hrz := (hr ([] ++ zF)).le zle; ((repeat (refine sp ?_; intros)); exact WQ.q1 rfl)) ?_)); (try (refine WE.calm 24 (by decide +kernel) rfl rfl (by decide +kernel) rfl (fun c h => by cases h) (by intro zm zF zle; have hrz := (hr ([] ++ zF)).le zle; ((repeat (refine sp ?_; intros)); exact WQ.q1 rfl)) ?_)); (try (refine WE.calm 25 (by decide +kernel) rfl rfl (by decide +kernel) rfl (fun c h => by cases h) (by intro zm zF zle; have hrz := (hr ([] ++ zF)).le zle; ((repeat (refine sp ?_; intros)); exact WQ.q1 rfl)) ?_)); (try (refine WE.calm 26 (by decide +kernel) rfl rfl (by decide +kernel) rfl (fun c h => by cases h) (by intro zm zF zle; have hrz := (hr ([] ++ zF)).le zle; ((repeat (refine sp ?_; intros)); exact WQ.q1 rfl)) ?_)); (try (refine WE.calm 27 (by decide +kernel) rfl rfl (by decide +kernel) rfl (fun c h => by cases h) (by intro zm zF zle; have hrz := (hr ([] ++ zF)).le zle; ((repeat (refine sp ?_; intros)); exact WQ.q1 rfl)) ?_)); (try (refine WE.calm 28 (by decide +kernel) rfl rfl (by decide +kernel) rfl (fun c h => by cases h) (by intro zm zF zle; have hrz := (hr ([] ++ zF)).le zle; ((repeat (refine sp ?_; intros)); exact WQ.q1 rfl)) ?_)); (try (refine WE.calm 29 (by decide +kernel) rfl rfl (by decide +kernel) rfl (fun c h => by cases h) (by intro zm zF zle; have hrz := (hr ([] ++ zF)).le zle; ((repeat (refine sp ?_; intros)); exact WQ.q1 rfl)) ?_)); (try (refine WE.calm 30 (by decide +kernel) rfl rfl (by decide +kernel) rfl (fun c h => by cases h) (by intro zm zF zle; have hrz := (hr ([] ++ zF)).le zle; ((repeat (refine sp ?_; intros)); exact WQ.q1 rfl)) ?_)); (try (refine WE.calm 31 (by decide +kernel) rfl rfl (by decide +kernel) rfl (fun c h => by cases h) (by intro zm zF zle; have hrz := (hr ([] ++ zF)).le zle; ((repeat (refine sp ?_; intros)); exact WQ.q1 rfl)) ?_)); (try (refine WE.calm 32 (by decide +kernel) rfl rfl (by decide +kernel) rfl (fun c h => by cases h) (by intro zm zF zle; have hrz := (hr ([] ++ zF)).le zle; ((repeat (refine sp ?_; intros)); exact WQ.q1 rfl)) ?_)); (try (refine WE.calm 33 (by decide +kernel) rfl rfl (by decide +kernel) rfl (fun c h => by cases h) (by intro zm zF zle; have hrz := (hr ([] ++ zF)).le zle; ((repeat (refine sp ?_; intros)); exact WQ.q1 rfl)) ?_)); (try (refine WE.calm 34 (by decide +kernel) rfl rfl (by decide +kernel) rfl (fun c h => by cases h) (by intro zm zF zle; have hrz := (hr ([] ++ zF)).le zle; ((repeat (refine sp ?_; intros)); exact WQ.q1 rfl)) ?_)); (try (refine WE.calm 35 (by decide +kernel) rfl rfl (by decide +kernel) rfl (fun c h => by cases h) (by intro zm zF zle; have hrz := (hr ([] ++ zF)).le zle; ((repeat (refine sp ?_; intros)); exact WQ.q1 rfl)) ?_)); (try (refine WE.calm 36 (by decide +kernel) rfl rfl (by decide +kernel) rfl (fun c h => by cases h) (by intro zm zF zle; have hrz := (hr ([] ++ zF)).le zle; ((repeat (refine sp ?_; intros)); exact WQ.q1 rfl)) ?_)); (try (refine WE.calm 37 (by decide +kernel) rfl rfl (by decide +kernel) rfl (fun c h => by cases h) (by intro zm zF zle; have hrz := (hr ([] ++ zF)).le zle; ((repeat (refine sp ?_; intros)); exact WQ.q1 rfl)) ?_)); (try (refine WE.calm 38 (by decide +kernel) rfl rfl (by decide +kernel) rfl (fun c h => by cases h) (by intro zm zF zle; have hrz := (hr ([] ++ zF)).le zle; ((repeat (refine sp ?_; intros)); exact WQ.q1 rfl)) ?_)); (try (refine WE.calm 39 (by decide +kernel) rfl rfl (by decide +kernel) rfl (fun c h => by cases h) (by intro zm zF zle; have hrz := (hr ([] ++ zF)).le zle; ((repeat (refine sp ?_; intros)); exact WQ.q1 rfl)) ?_)); (try (refine WE.calm 40 (by decide +kernel) rfl rfl (by decide +kernel) rfl (fun c h => by cases h) (by intro zm zF zle; have hrz := (hr ([] ++ zF)).le zle; ((repeat (refine sp ?_; intros)); exact WQ.q1 rfl)) ?_)); (try (refine WE.calm 41 (by decide +kernel) rfl rfl (by decide +kernel) rfl (fun c h => by cases h) (by intro zm zF zle; have hrz := (hr ([] ++ zF)).le zle; ((repeat (refine sp ?_; intros)); exact WQ.q1 rfl)) ?_)))
      refine WE.done (by decide +kernel) ?_
      (try (refine st ?_; intros))
      rw [htl]
      refine WQ.next (l.length - (k + 1)) ⟨k + 1, c2, cp2, k + 1, rfl, rfl, rfl, rfl, rfl, ?_, ?_⟩ (by omega) (by (repeat (first | exact Env.Sub.nil | refine Env.Sub.cons rfl ?_))) ?_
      · omega
      · rfl
      · rw [← e]; exact (fun w h => Pick.sat (by iterate 60 (try (first | exact Pick.all | (apply Pick.take; (· (repeat (first | exact Out.here | apply Out.there)))) | apply Pick.drop))) h)
    · obtain rfl : k = l.length := by omega
      (try (refine st ?_; intros))
      have e : (l.map Stp.cs).take l.length = l.map Stp.cs := by rw [← hln]; exact List.take_length
      rw [e]
      exact q_fin0 (H0 := .row c cp 84 3 (l.map Stp.cs) :: H) ⟨rfl, .inl ⟨hs.symm, c, cp, rfl, rfl⟩⟩ (hd := (fun w h => Pick.sat (by iterate 60 (try (first | exact Pick.all | (apply Pick.take; (· (repeat (first | exact Out.here | apply Out.there)))) | apply Pick.drop))) h))
end Go.Proofs.Ytelgegefmjlimaa

